/- The sponge on plain numbers: what Write, Read and all come to. -/
import Derived.Test.YtlloghihfigalaaKAwakeL
import Derived.Test.YtlloghihfigalaaPKit2L
set_option linter.unusedVariables false
set_option linter.unusedSimpArgs false
set_option maxRecDepth 100000
namespace Go.Abs
open Go.RowKit

/-! ### kinds -/
def KK (k rt sf : Nat) (ol : Int) : Prop := (k = 1 ∧ rt = 136 ∧ sf = 6 ∧ ol = 32) ∨ (k = 2 ∧ rt = 104 ∧ sf = 6 ∧ ol = 48) ∨ (k = 3 ∧ rt = 72 ∧ sf = 6 ∧ ol = 64) ∨ (k = 4 ∧ rt = 168 ∧ sf = 31 ∧ ol = -1) ∨ (k = 5 ∧ rt = 136 ∧ sf = 31 ∧ ol = -1)
section
variable {k rt sf : Nat} {ol : Int} (K : KK k rt sf ol)
include K
theorem KK.rt_pos : 8 ≤ rt ∧ rt ≤ 168 ∧ sf < 32 ∧ rt % 8 = 0 ∧ (0 ≤ (k : Int) ∧ (k : Int) < 6) := by
  rcases K with ⟨rfl, rfl, rfl, rfl⟩ | ⟨rfl, rfl, rfl, rfl⟩ | ⟨rfl, rfl, rfl, rfl⟩ | ⟨rfl, rfl, rfl, rfl⟩ | ⟨rfl, rfl, rfl, rfl⟩ <;> decide
theorem KK.new : Fk11 k = some (.inl (((k : Int), (fun _ => 0), 0, false, ol), 0)) := by
  rcases K with ⟨rfl, rfl, rfl, rfl⟩ | ⟨rfl, rfl, rfl, rfl⟩ | ⟨rfl, rfl, rfl, rfl⟩ | ⟨rfl, rfl, rfl, rfl⟩ | ⟨rfl, rfl, rfl, rfl⟩ <;> kernel_rfl
theorem KK.rate : strAt kstr1 k = (rt : Int) := by
  rcases K with ⟨rfl, rfl, rfl, rfl⟩ | ⟨rfl, rfl, rfl, rfl⟩ | ⟨rfl, rfl, rfl, rfl⟩ | ⟨rfl, rfl, rfl, rfl⟩ | ⟨rfl, rfl, rfl, rfl⟩ <;> kernel_rfl
theorem KK.suf : strAt kstr2 k = (sf : Int) := by
  rcases K with ⟨rfl, rfl, rfl, rfl⟩ | ⟨rfl, rfl, rfl, rfl⟩ | ⟨rfl, rfl, rfl, rfl⟩ | ⟨rfl, rfl, rfl, rfl⟩ | ⟨rfl, rfl, rfl, rfl⟩ <;> kernel_rfl
theorem KK.kind : Fk33 k = some ((rt : Int), (sf : Int), ol, true) := by
  rcases K with ⟨rfl, rfl, rfl, rfl⟩ | ⟨rfl, rfl, rfl, rfl⟩ | ⟨rfl, rfl, rfl, rfl⟩ | ⟨rfl, rfl, rfl, rfl⟩ | ⟨rfl, rfl, rfl, rfl⟩ <;> kernel_rfl
end
theorem size1 : (kstr1.size : Int) = 6 := by kernel_rfl
theorem size2 : (kstr2.size : Int) = 6 := by kernel_rfl

/-! ### one byte into the state -/
def mixN (L : Nat → Nat) (p v : Nat) : Nat → Nat := fun j => if j = p / 8 then L j ^^^ (v <<< (8 * (p % 8))) else L j
def mixI (r : Nat → Int) (p v : Nat) : Nat → Int := upd r (p / 8) (bitsXor .u64 (r (p / 8)) (shlI .u64 (v : Int) ((8 * (p % 8) : Nat) : Int)))

theorem shl8_lt {v q : Nat} (hv : v < 256) (hq : q < 8) : v <<< (8 * q) < 2 ^ 64 := by
  rw [Nat.shiftLeft_eq]
  have h1 : 2 ^ (8 * q) ≤ 2 ^ 56 := Nat.pow_le_pow_right (by decide) (by omega)
  have h2 : v * 2 ^ (8 * q) ≤ 255 * 2 ^ 56 := Nat.mul_le_mul (by omega) h1
  omega
theorem shl8 {v q : Nat} (hv : v < 256) (hq : q < 8) : shlI .u64 (v : Int) ((8 * q : Nat) : Int) = ((v <<< (8 * q) : Nat) : Int) := by
  rw [shl64 (by omega) (by omega) (by omega)]
  have h1 : ((v : Int)).toNat = v := by simp
  have h2 : (((8 * q : Nat) : Int)).toNat = 8 * q := Int.toNat_natCast _
  rw [h1, h2, Nat.mod_eq_of_lt (shl8_lt hv hq)]
theorem mixN_bd {L : Nat → Nat} (h : Bd L) {p v : Nat} (hv : v < 256) : Bd (mixN L p v) := by
  intro j hj
  unfold mixN
  split
  · exact xorL (h j hj) (shl8_lt hv (Nat.mod_lt _ (by decide)))
  · exact h j hj
theorem mix_Q {r : Nat → Int} {L : Nat → Nat} (h : Q r L) {p v : Nat} (hp : p < 200) (hv : v < 256) : Q (mixI r p v) (mixN L p v) := by
  intro j hj
  refine ⟨?_, mixN_bd h.bd hv j hj⟩
  unfold mixI mixN
  rw [upd_apply]
  split
  · rename_i e
    subst e
    rw [shl8 hv (Nat.mod_lt _ (by decide)), (h _ hj).1, xorQ (h _ hj).2 (shl8_lt hv (Nat.mod_lt _ (by decide)))]
  · exact (h j hj).1
theorem mix_eq (k l at' : Int) (o : Bool) (r : Nat → Int) {p v : Nat} (hp : p < 200) (hv : v < 256) : Fk30 ((k, r, at', o, l), (p : Int), (v : Int)) = some (k, mixI r p v, at', o, l) := by
  have h1 : IntKind.i64.wrap ((p : Int).tdiv 8) = ((p / 8 : Nat) : Int) := by rw [tdivP (by omega), wi64 (by omega) (by omega)]; omega
  have h2 : IntKind.i64.wrap (8 * (p : Int).tmod 8) = ((8 * (p % 8) : Nat) : Int) := by rw [tmodP (by omega), wi64 (by omega) (by omega)]; omega
  have h3 : IntKind.u64.wrap (v : Int) = (v : Int) := wu64 (by omega) (by omega)
  simp only [Fk30, h1, h2, h3, Int.toNat_natCast]
  rw [if_pos (by omega), if_pos (by omega), if_pos (by omega)]
  rfl

/-! ### Write -/
def abs1 (rt : Nat) (s : (Nat → Nat) × Nat) (v : Nat) : (Nat → Nat) × Nat := if s.2 + 1 = rt then (permN (mixN s.1 s.2 v), 0) else (mixN s.1 s.2 v, s.2 + 1)
def absN (rt : Nat) (s : (Nat → Nat) × Nat) (xs : List Nat) : (Nat → Nat) × Nat := xs.foldl (abs1 rt) s
def nats (xs : List Int) : List Nat := xs.map Int.toNat
def Byt (xs : List Int) : Prop := ∀ i, i < xs.length → 0 ≤ xs.getD i 0 ∧ xs.getD i 0 < 256

theorem abs1_lt {rt : Nat} {s : (Nat → Nat) × Nat} (h : s.2 < rt) (v : Nat) : (abs1 rt s v).2 < rt := by unfold abs1; split <;> simp only <;> omega
theorem absN_lt {rt : Nat} : ∀ {xs : List Nat} {s : (Nat → Nat) × Nat}, s.2 < rt → (absN rt s xs).2 < rt := by
  intro xs
  induction xs with
  | nil => intro s h; exact h
  | cons v xs ih => intro s h; exact ih (abs1_lt h v)
theorem nats_take {xs : List Int} {i : Nat} (hi : i < xs.length) : nats (xs.take (i + 1)) = nats (xs.take i) ++ [(xs.getD i 0).toNat] := by
  unfold nats
  rw [List.take_add_one, List.getElem?_eq_getElem hi, List.map_append]
  simp [List.getD_eq_getElem?_getD, hi]

section
variable {k rt sf : Nat} {ol : Int} (K : KK k rt sf ol)
include K
theorem write_loop {l : Int} {xs : List Int} (hx : Byt xs) (hlen : xs.length ≤ 140737488355328) {r : Nat → Int} {L : Nat → Nat} (hQ : Q r L) {p : Nat} (hp : p < rt) :
    Ret (loopO stepk12_0 (xs, (xs.length : Int), 0, ((k : Int), r, (p : Int), false, l))) fun z => ∃ r', z = ((k : Int), r', ((absN rt (L, p) (nats xs)).2 : Int), false, l) ∧ Q r' (absN rt (L, p) (nats xs)).1 := by
  obtain ⟨k1, k2, k3, k4, k5⟩ := K.rt_pos
  refine loopO_inv (fun i s => ∃ r', s = (xs, (xs.length : Int), (i : Int), ((k : Int), r', ((absN rt (L, p) (nats (xs.take i))).2 : Int), false, l)) ∧ Q r' (absN rt (L, p) (nats (xs.take i))).1) xs.length ⟨r, rfl, hQ⟩ ?_ ?_
  · rintro i s hi ⟨r', rfl, hr⟩
    obtain ⟨b1, b2⟩ := hx i hi
    have hat : (absN rt (L, p) (nats (xs.take i))).2 < rt := absN_lt hp
    have hstep : absN rt (L, p) (nats (xs.take (i + 1))) = abs1 rt (absN rt (L, p) (nats (xs.take i))) (xs.getD i 0).toNat := by
      rw [nats_take hi]; unfold absN; rw [List.foldl_append]; rfl
    generalize absN rt (L, p) (nats (xs.take i)) = A at hr hat hstep
    obtain ⟨v, hv⟩ : ∃ v : Nat, xs.getD i 0 = (v : Int) := ⟨(xs.getD i 0).toNat, by omega⟩
    rw [hv] at b1 b2 hstep
    rw [Int.toNat_natCast] at hstep
    have hv2 : v < 256 := by omega
    have hm := mix_Q hr (p := A.2) (by omega) hv2
    have w1 : IntKind.i64.wrap ((A.2 : Int) + 1) = ((A.2 + 1 : Nat) : Int) := by rw [wi64 (by omega) (by omega)]; omega
    have w2 : IntKind.i64.wrap ((i : Int) + 1) = ((i + 1 : Nat) : Int) := by rw [wi64 (by omega) (by omega)]; omega
    have w3 : IntKind.i64.wrap (rt : Int) = (rt : Int) := wi64 (by omega) (by omega)
    have d1 : decide ((i : Int) < (xs.length : Int)) = true := by simp; omega
    simp only [stepk12_0, d1, if_true, Int.toNat_natCast]
    rw [if_pos (by omega), hv, mix_eq _ _ _ _ _ (by omega) hv2]
    simp only [Option.bind_some]
    rw [if_pos (by rw [size1]; exact k5), w1, K.rate, w3, w2, hstep]
    by_cases e : A.2 + 1 = rt
    · have e' : (((A.2 + 1 : Nat) : Int) == (rt : Int)) = true := by simp [e]
      rw [if_pos e', Fk9_eq]
      simp only [Option.bind_some]
      refine ⟨_, rfl, perm9 (mixI r' A.2 v), ?_, ?_⟩
      · unfold abs1; rw [if_pos e]; rfl
      · unfold abs1; rw [if_pos e]; exact perm9_Q hm
    · have e' : ¬ (((A.2 + 1 : Nat) : Int) == (rt : Int)) = true := by simp; omega
      rw [if_neg e']
      refine ⟨_, rfl, mixI r' A.2 v, ?_, ?_⟩
      · unfold abs1; rw [if_neg e]
      · unfold abs1; rw [if_neg e]; exact hm
  · rintro s ⟨r', rfl, hr⟩
    have d1 : decide ((xs.length : Int) < (xs.length : Int)) = false := by simp
    simp only [stepk12_0, d1, Bool.false_eq_true, if_false]
    refine ⟨_, rfl, r', ?_, ?_⟩
    · rw [List.take_length]
    · rw [List.take_length] at hr; exact hr

theorem write_eq {l : Int} {xs : List Int} (hx : Byt xs) (hlen : xs.length ≤ 140737488355328) {r : Nat → Int} {L : Nat → Nat} (hQ : Q r L) {p : Nat} (hp : p < rt) :
    ∃ r', Fk12 (((k : Int), r, (p : Int), false, l), xs) = some (0, ((k : Int), r', ((absN rt (L, p) (nats xs)).2 : Int), false, l)) ∧ Q r' (absN rt (L, p) (nats xs)).1 := by
  obtain ⟨z, h1, r', rfl, h2⟩ := write_loop K (l := l) hx hlen hQ hp
  refine ⟨r', ?_, h2⟩
  simp only [Fk12, Bool.false_eq_true, if_false]
  rw [h1]; rfl
end

/-! ### Read -/
def permI : Nat → (Nat → Nat) → (Nat → Nat)
  | 0, L => L
  | b + 1, L => permN (permI b L)
def outB (rt : Nat) (L : Nat → Nat) (q : Nat) : Nat := (permI (q / rt) L ((q % rt) / 8) >>> (8 * ((q % rt) % 8))) % 256
def outs (rt : Nat) (L : Nat → Nat) (q n : Nat) : List Int := (List.range n).map fun i => (outB rt L (q + i) : Int)
/-- the state holds what is to be told from q on -/
def SQ (rt : Nat) (L : Nat → Nat) (q : Nat) (r : Nat → Int) (at' : Int) : Prop := ∃ b a, q = b * rt + a ∧ a ≤ rt ∧ at' = (a : Int) ∧ Q r (permI b L)

theorem byte_out {r : Nat → Int} {L : Nat → Nat} (h : Q r L) {a : Nat} (ha : a < 200) : IntKind.u8.wrap (shrI .u64 (r (a / 8)) ((8 * (a % 8) : Nat) : Int)) = (((L (a / 8) >>> (8 * (a % 8))) % 256 : Nat) : Int) := by
  obtain ⟨e, l⟩ := h (a / 8) (by omega)
  rw [e, shr64 (by omega) (by omega) (by omega)]
  have h1 : ((L (a / 8) : Int)).toNat = L (a / 8) := by simp
  have h2 : (((8 * (a % 8) : Nat) : Int)).toNat = 8 * (a % 8) := Int.toNat_natCast _
  rw [h1, h2, IntKind.wrap_u8']
  omega

theorem outB_at {rt : Nat} (hrt : 0 < rt) (L : Nat → Nat) {b a : Nat} (ha : a < rt) : outB rt L (b * rt + a) = (permI b L (a / 8) >>> (8 * (a % 8))) % 256 := by
  have h1 : (b * rt + a) / rt = b := by rw [Nat.mul_comm, Nat.mul_add_div hrt, Nat.div_eq_of_lt ha]; rfl
  have h2 : (b * rt + a) % rt = a := by rw [Nat.mul_comm, Nat.mul_add_mod, Nat.mod_eq_of_lt ha]
  unfold outB
  rw [h1, h2]

section
variable {k rt sf : Nat} {ol : Int} (K : KK k rt sf ol)
include K
theorem read_loop {l : Int} {n : Nat} (hn : n ≤ 65536) {q : Nat} {L : Nat → Nat} {r : Nat → Int} {a : Int} (hS : SQ rt L q r a) :
    Ret (loopO stepk13_0 ((n : Int), (rt : Int), (n : Int), 0, ((k : Int), r, a, true, l), List.replicate n 0)) fun z => ∃ r' a', z = ((n : Int), ((k : Int), r', a', true, l), outs rt L q n) ∧ SQ rt L (q + n) r' a' := by
  obtain ⟨k1, k2, k3, k4, k5⟩ := K.rt_pos
  refine loopO_inv (fun i s => ∃ r' a', s = ((n : Int), (rt : Int), (n : Int), (i : Int), ((k : Int), r', a', true, l), LL n (fun j => if j < i then (outB rt L (q + j) : Int) else 0)) ∧ SQ rt L (q + i) r' a') n ⟨r, a, ?_, hS⟩ ?_ ?_
  · rw [LL_zero]; simp
  · rintro i s hi ⟨r', a', rfl, b, c, hq, hc, rfl, hr⟩
    have d1 : decide ((i : Int) < (n : Int)) = true := by simp; omega
    have hll : (LL n (fun j => if j < i then (outB rt L (q + j) : Int) else 0)).length = n := by simp [LL]
    have w2 : IntKind.i64.wrap ((i : Int) + 1) = ((i + 1 : Nat) : Int) := by rw [wi64 (by omega) (by omega)]; omega
    have hset : ∀ v : Int, v = (outB rt L (q + i) : Int) → (LL n (fun j => if j < i then (outB rt L (q + j) : Int) else 0)).set i v = LL n (fun j => if j < i + 1 then (outB rt L (q + j) : Int) else 0) := by
      intro v hv
      rw [LL_upd]
      apply LL_congr
      intro j hj
      rw [upd_apply]
      by_cases e : j = i
      · subst e; simp [hv]
      · rw [if_neg e]
        by_cases e2 : j < i
        · rw [if_pos e2, if_pos (by omega)]
        · rw [if_neg e2, if_neg (by omega)]
    simp only [stepk13_0, d1, if_true, Int.toNat_natCast]
    by_cases e : c = rt
    · subst e
      have e' : (((c : Nat) : Int) == (c : Int)) = true := by simp
      rw [if_pos e', Fk9_eq]
      simp only [Option.bind_some]
      have hp := perm9_Q hr
      have hb := byte_out hp (a := 0) (by decide)
      have z1 : IntKind.i64.wrap ((0 : Int).tdiv 8) = 0 := by decide
      have z2 : IntKind.i64.wrap (8 * (0 : Int).tmod 8) = 0 := by decide
      rw [z1, z2, if_pos (by decide), if_pos (by decide), if_pos (by rw [hll]; omega), w2]
      refine ⟨_, rfl, perm9 r', 1, ?_, b + 1, 1, ?_, by omega, rfl, hp⟩
      · rw [hset]
        have hq2 : q + i = (b + 1) * c + 0 := by rw [hq, Nat.add_mul]; omega
        rw [hq2, outB_at (by omega) L (by omega)]
        exact hb
      · rw [← Nat.add_assoc, hq, Nat.add_mul]; omega
    · have e' : ¬ (((c : Nat) : Int) == (rt : Int)) = true := by simp; omega
      rw [if_neg e']
      have h1 : IntKind.i64.wrap ((c : Int).tdiv 8) = ((c / 8 : Nat) : Int) := by rw [tdivP (by omega), wi64 (by omega) (by omega)]; omega
      have h2 : IntKind.i64.wrap (8 * (c : Int).tmod 8) = ((8 * (c % 8) : Nat) : Int) := by rw [tmodP (by omega), wi64 (by omega) (by omega)]; omega
      have w1 : IntKind.i64.wrap ((c : Int) + 1) = ((c + 1 : Nat) : Int) := by rw [wi64 (by omega) (by omega)]; omega
      rw [h1, h2, if_pos (by omega), if_pos (by omega), if_pos (by rw [hll]; omega), w2, w1]
      refine ⟨_, rfl, r', _, ?_, b, c + 1, by omega, by omega, rfl, hr⟩
      rw [hset]
      rw [hq, outB_at (by omega) L (by omega)]
      exact byte_out hr (by omega)
  · rintro s ⟨r', a', rfl, hS'⟩
    have d1 : decide ((n : Int) < (n : Int)) = false := by simp
    simp only [stepk13_0, d1, Bool.false_eq_true, if_false]
    refine ⟨_, rfl, r', a', ?_, hS'⟩
    have : LL n (fun j => if j < n then (outB rt L (q + j) : Int) else 0) = outs rt L q n := by
      unfold outs
      exact LL_congr fun j hj => by rw [if_pos hj]
    rw [this]
end
end Go.Abs
