/- Packing upward and downward on both sides; PackPolys, the plain law. -/
import Derived.Test.YtpfcdkkbiemmpaaPLay
set_option linter.unusedVariables false
set_option linter.unusedSimpArgs false
namespace Go.Abs
open Go.ChangeShapes Go.WideShapes

theorem sb_congr {l l' : Nat → Int} {n k : Nat} (h : l (k / n) = l' (k / n)) : sb l n k = sb l' n k := by unfold sb; rw [h]
theorem byteG_congr {l l' : Nat → Int} {n : Nat} (h : ∀ i, i < 256 → l i = l' i) {j : Nat} (hj : j < 32 * n) : byteG l n j = byteG l' n j := by
  unfold byteG
  congr 1
  apply nat2_congr
  intro k hk
  apply sb_congr
  apply h
  have : 8 * j + k < 256 * n := by omega
  exact Nat.div_lt_of_lt_mul (by omega)

theorem shr_i32 {x : Int} {n : Nat} (h0 : 0 ≤ x) (hn : n ≤ 30) : (shrI .i32 x (n : Int) != 0) = decide (2 ^ n ≤ x) := by
  unfold shrI
  have hm : min (n : Int).toNat IntKind.i32.bits = n := by have : IntKind.i32.bits = 32 := rfl; omega
  have hp : (0 : Int) < 2 ^ n := Int.pow_pos (by decide)
  rw [hm, Int.fdiv_eq_ediv_of_nonneg _ (Int.le_of_lt hp)]
  by_cases h : 2 ^ n ≤ x
  · simp only [h, decide_true]
    have : 1 ≤ x / 2 ^ n := (Int.le_ediv_iff_mul_le hp).2 (by omega)
    have h2 : x / 2 ^ n ≠ 0 := by omega
    simpa using h2
  · simp only [h, decide_false]
    have : x / 2 ^ n = 0 := Int.ediv_eq_zero_of_lt h0 (by omega)
    simp [this]

theorem shl_i64 {n : Nat} (hn : n ≤ 30) : shlI .i64 1 (IntKind.u64.wrap (n : Int)) = 2 ^ n := by
  rw [wu64 (by omega) (by omega)]
  unfold shlI
  have hm : min (n : Int).toNat IntKind.i64.bits = n := by have : IntKind.i64.bits = 64 := rfl; omega
  have h1 : (2 : Int) ^ n ≤ 2 ^ 30 := ipow_le (by decide) hn
  have h2 : (0 : Int) < 2 ^ n := Int.pow_pos (by decide)
  rw [hm, Int.one_mul, wi64 (by omega) (by rw [show (2 : Int) ^ 30 = 1073741824 from rfl] at h1; omega)]

def OkU (p : Nat → Int) (n : Nat) : Prop := ∀ i, i < 256 → 0 ≤ p i ∧ p i < 8380417 ∧ p i < 2 ^ n

theorem up_loop {p : Nat → Int} {n : Nat} (hn : 1 ≤ n ∧ n ≤ 23) :
    Ret (loopO stepp7_0 ((n : Int), p, 0, (fun _ => 0))) fun r => match r with | .inl z => z = (92, []) ∧ ¬ OkU p n | .inr z => z.1 = (n : Int) ∧ OkU p n ∧ ∀ k, k < 256 → z.2 k = p k := by
  refine loopO_inv2 (fun i s => ∃ f : Nat → Int, s = ((n : Int), p, (i : Int), f) ∧ ∀ k, k < i → (0 ≤ p k ∧ p k < 8380417 ∧ p k < 2 ^ n) ∧ f k = p k) 256 ⟨_, rfl, fun k h => by omega⟩ ?_
  rintro i _ hi ⟨f, rfl, hf⟩
  by_cases h : i = 256
  · right
    subst h
    refine ⟨.inr ((n : Int), f), ?_, rfl, fun k hk => (hf k hk).1, fun k hk => (hf k hk).2⟩
    simp only [stepp7_0]; simp (disch := omega) only [decide_eq_true_eq, if_neg]
  · have hi' : i < 256 := by omega
    by_cases c1 : p i < 0
    · right
      refine ⟨.inl (92, []), ?_, rfl, fun ho => by have := ho i hi'; omega⟩
      simp only [stepp7_0]
      simp (disch := omega) only [decide_eq_true_eq, decide_eq_false_iff_not, if_pos, if_neg, Int.toNat_natCast, c1, decide_true, Bool.true_eq_false, if_false]
    by_cases c2 : p i ≥ 8380417
    · right
      refine ⟨.inl (92, []), ?_, rfl, fun ho => by have := ho i hi'; omega⟩
      simp only [stepp7_0]
      simp (disch := omega) only [decide_eq_true_eq, decide_eq_false_iff_not, if_pos, Int.toNat_natCast, c1, c2, decide_true, decide_false, Bool.true_eq_false, if_false, if_true]
    have hsh := shr_i32 (x := p i) (n := n) (by omega) (by omega)
    by_cases c3 : 2 ^ n ≤ p i
    · right
      refine ⟨.inl (92, []), ?_, rfl, fun ho => by have := ho i hi'; omega⟩
      simp only [stepp7_0]
      simp (disch := omega) only [decide_eq_true_eq, decide_eq_false_iff_not, if_pos, Int.toNat_natCast, c1, c2, c3, hsh, decide_true, decide_false, Bool.true_eq_false, if_false, if_true]
    · left
      refine ⟨_, hi', ?_, upd f i (p i), rfl, fun k hk => ?_⟩
      · simp only [stepp7_0]
        simp (disch := omega) only [decide_eq_true_eq, decide_eq_false_iff_not, if_pos, Int.toNat_natCast, c1, c2, c3, hsh, decide_true, decide_false, Bool.true_eq_false, Bool.false_eq_true, if_false, if_true, wi64, wu32]
        rfl
      · rw [upd_apply]
        by_cases e : k = i
        · subst e; rw [if_pos rfl]; exact ⟨⟨by omega, by omega, by omega⟩, rfl⟩
        · rw [if_neg e]; exact hf k (by omega)

theorem OkU.inB {p : Nat → Int} {n : Nat} (h : OkU p n) {l : Nat → Int} (e : ∀ k, k < 256 → l k = p k) : InB l n := fun i hi => by rw [e i hi]; exact ⟨(h i hi).1, (h i hi).2.2⟩

theorem up_yes {p : Nat → Int} {n : Nat} (hn : 1 ≤ n ∧ n ≤ 23) (h : OkU p n) : Fp7 (p, (n : Int)) = some (LL (32 * n) (byteG p n), 0) := by
  have c1 : decide ((n : Int) < 1) = false := by simp; omega
  have c2 : decide ((n : Int) > 23) = false := by simp; omega
  simp only [Fp7, c1, c2, if_true, Bool.false_eq_true, if_false]
  obtain ⟨r, h1, h2⟩ := up_loop (p := p) hn
  rw [h1, Option.bind_some]
  rcases r with z | ⟨z1, z2⟩
  · exact absurd h h2.2
  · obtain ⟨rfl, _, h3⟩ := h2
    simp only []
    rw [lay_spec hn (h.inB h3), Option.bind_some, LL_congr fun j hj => byteG_congr h3 hj]

theorem up_no {p : Nat → Int} {n : Nat} (hn : 1 ≤ n ∧ n ≤ 23) (h : ¬ OkU p n) : Fp7 (p, (n : Int)) = some ([], 92) := by
  have c1 : decide ((n : Int) < 1) = false := by simp; omega
  have c2 : decide ((n : Int) > 23) = false := by simp; omega
  simp only [Fp7, c1, c2, if_true, Bool.false_eq_true, if_false]
  obtain ⟨r, h1, h2⟩ := up_loop (p := p) hn
  rw [h1, Option.bind_some]
  rcases r with z | ⟨z1, z2⟩
  · obtain ⟨rfl, _⟩ := h2; rfl
  · exact absurd h2.2.1 h

def Pl (p : Nat → Int) : Prop := ∀ i, i < 256 → 0 ≤ p i ∧ p i < 8380417

theorem plain_loop {p : Nat → Int} : Ret (loopO stepp20_0 (0, p)) fun r => match r with | .inl z => z = false ∧ ¬ Pl p | .inr _ => Pl p := by
  refine loopO_inv2 (fun i s => s = ((i : Int), p) ∧ ∀ k, k < i → 0 ≤ p k ∧ p k < 8380417) 256 ⟨rfl, fun k h => by omega⟩ ?_
  rintro i _ hi ⟨rfl, hf⟩
  by_cases h : i = 256
  · right
    subst h
    refine ⟨.inr (), ?_, hf⟩
    simp only [stepp20_0]; simp (disch := omega) only [decide_eq_true_eq, if_neg]
  · have hi' : i < 256 := by omega
    by_cases c1 : p i < 0
    · right
      refine ⟨.inl false, ?_, rfl, fun ho => by have := ho i hi'; omega⟩
      simp only [stepp20_0]
      simp (disch := omega) only [decide_eq_true_eq, decide_eq_false_iff_not, if_pos, if_neg, Int.toNat_natCast, c1, decide_true, Bool.true_eq_false, if_false]
    by_cases c2 : p i ≥ 8380417
    · right
      refine ⟨.inl false, ?_, rfl, fun ho => by have := ho i hi'; omega⟩
      simp only [stepp20_0]
      simp (disch := omega) only [decide_eq_true_eq, decide_eq_false_iff_not, if_pos, Int.toNat_natCast, c1, c2, decide_true, decide_false, Bool.true_eq_false, if_false, if_true]
    · left
      refine ⟨_, hi', ?_, rfl, fun k hk => ?_⟩
      · simp only [stepp20_0]
        simp (disch := omega) only [decide_eq_true_eq, decide_eq_false_iff_not, if_pos, Int.toNat_natCast, c1, c2, decide_true, decide_false, Bool.true_eq_false, Bool.false_eq_true, if_false, if_true, wi64]
        rfl
      · by_cases e : k = i
        · subst e; omega
        · exact hf k (by omega)

theorem plain_yes {p : Nat → Int} (h : Pl p) : Fp20 p = some true := by
  obtain ⟨r, h1, h2⟩ := plain_loop (p := p)
  simp only [Fp20, h1, Option.bind_some]
  rcases r with z | z
  · exact absurd h h2.2
  · rfl
theorem plain_no {p : Nat → Int} (h : ¬ Pl p) : Fp20 p = some false := by
  obtain ⟨r, h1, h2⟩ := plain_loop (p := p)
  simp only [Fp20, h1, Option.bind_some]
  rcases r with z | z
  · obtain ⟨rfl, _⟩ := h2; rfl
  · exact absurd h2 h

theorem rup_loop {p : Nat → Int} {n : Nat} (hn : 1 ≤ n ∧ n ≤ 23) (hp : Pl p) :
    Ret (loopO stepp9_0 ((n : Int), true, 0, p, (fun _ => 0))) fun r => match r with | .inl z => z = (92, []) ∧ ¬ OkU p n | .inr z => z.1 = (n : Int) ∧ OkU p n ∧ ∀ k, k < 256 → z.2 k = p k := by
  refine loopO_inv2 (fun i s => ∃ f : Nat → Int, s = ((n : Int), true, (i : Int), p, f) ∧ ∀ k, k < i → p k < 2 ^ n ∧ f k = p k) 256 ⟨_, rfl, fun k h => by omega⟩ ?_
  rintro i _ hi ⟨f, rfl, hf⟩
  by_cases h : i = 256
  · right
    subst h
    refine ⟨.inr ((n : Int), f), ?_, rfl, fun k hk => ⟨(hp k hk).1, (hp k hk).2, (hf k hk).1⟩, fun k hk => (hf k hk).2⟩
    simp only [stepp9_0]; simp (disch := omega) only [decide_eq_true_eq, if_neg]
  · have hi' : i < 256 := by omega
    have hpi := hp i hi'
    have hu : 0 ≤ IntKind.u64.wrap (n : Int) := u64_le _
    have hsh := shl_i64 (n := n) (by omega)
    by_cases c3 : p i ≥ 2 ^ n
    · right
      refine ⟨.inl (92, []), ?_, rfl, fun ho => by have := ho i hi'; omega⟩
      simp only [stepp9_0]
      simp (disch := omega) only [decide_eq_true_eq, decide_eq_false_iff_not, if_pos, Int.toNat_natCast, hsh, upd_same, wi64, Bool.not_true, hu, c3, if_true]
    · left
      refine ⟨_, hi', ?_, upd f i (p i), rfl, fun k hk => ?_⟩
      · simp only [stepp9_0]
        simp (disch := omega) only [decide_eq_true_eq, decide_eq_false_iff_not, if_pos, Int.toNat_natCast, hsh, upd_same, wi64, Bool.not_true, hu, c3, if_false, if_true]
        rfl
      · rw [upd_apply]
        by_cases e : k = i
        · subst e; rw [if_pos rfl]; exact ⟨by omega, rfl⟩
        · rw [if_neg e]; exact hf k (by omega)

theorem rup_yes {p : Nat → Int} {n : Nat} (hn : 1 ≤ n ∧ n ≤ 23) (h : OkU p n) : Fp9 (p, (n : Int)) = some (LL (32 * n) (byteG p n), 0) := by
  have c1 : decide ((n : Int) < 1) = false := by simp; omega
  have c2 : decide ((n : Int) > 23) = false := by simp; omega
  have hp : Pl p := fun i hi => ⟨(h i hi).1, (h i hi).2.1⟩
  simp only [Fp9, c1, c2, if_true, Bool.false_eq_true, if_false, plain_yes hp, Option.bind_some]
  obtain ⟨r, h1, h2⟩ := rup_loop hn hp
  rw [h1, Option.bind_some]
  rcases r with z | ⟨z1, z2⟩
  · exact absurd h h2.2
  · obtain ⟨rfl, _, h3⟩ := h2
    simp only []
    rw [rlay_spec hn (h.inB h3), Option.bind_some, LL_congr fun j hj => byteG_congr h3 hj]

theorem rup_no {p : Nat → Int} {n : Nat} (hn : 1 ≤ n ∧ n ≤ 23) (h : ¬ OkU p n) : Fp9 (p, (n : Int)) = some ([], 92) := by
  have c1 : decide ((n : Int) < 1) = false := by simp; omega
  have c2 : decide ((n : Int) > 23) = false := by simp; omega
  simp only [Fp9, c1, c2, if_true, Bool.false_eq_true, if_false]
  by_cases hp : Pl p
  · rw [plain_yes hp, Option.bind_some]
    obtain ⟨r, h1, h2⟩ := rup_loop hn hp
    rw [h1, Option.bind_some]
    rcases r with z | ⟨z1, z2⟩
    · obtain ⟨rfl, _⟩ := h2; rfl
    · exact absurd h2.2.1 h
  · rw [plain_no hp, Option.bind_some, loopO_eq]
    simp [stepp9_0]

theorem same_self (xs : List Int) (h : xs.length ≤ 140737488351232) : Fp11 (xs, xs) = some true := by
  have hl : Ret (loopO stepp11_0 (xs, xs, 0)) (· = .inr ()) := by
    refine loopO_inv (fun j s => s = (xs, xs, (j : Int))) xs.length rfl ?_ ?_
    · rintro j _ hj rfl
      refine ⟨_, ?_, rfl⟩
      simp only [stepp11_0, bne_self_eq_false, Bool.false_eq_true, if_false]
      simp (disch := omega) only [decide_eq_true_eq, if_pos, wi64]
      rfl
    · rintro _ rfl
      refine ⟨_, ?_, rfl⟩
      simp only [stepp11_0]; simp (disch := omega) only [decide_eq_true_eq, if_neg]
  simp only [Fp11, bne_self_eq_false, Bool.false_eq_true, if_false, hl.eq, Option.bind_some]

/-! ### Downward -/
def cen (x : Int) : Int := if x > 4190208 then x - 8380417 else x
def dn (top : Int) (p : Nat → Int) (i : Nat) : Int := top - cen (p i)
theorem cen_bound {x : Int} (h : 0 ≤ x ∧ x < 8380417) : -4190208 ≤ cen x ∧ cen x ≤ 4190208 := by unfold cen; split <;> omega

def OkD (top : Int) (p : Nat → Int) (n : Nat) : Prop := Pl p ∧ ∀ i, i < 256 → 0 ≤ dn top p i ∧ dn top p i < 2 ^ n

theorem down_loop {p : Nat → Int} {top : Int} {n : Nat} (hn : 1 ≤ n ∧ n ≤ 22) (ht : 0 ≤ top ∧ top ≤ 4194304) :
    Ret (loopO stepp8_0 (top, (n : Int), p, 0, (fun _ => 0))) fun r => match r with | .inl z => z = (92, []) ∧ ¬ OkD top p n | .inr z => z.1 = (n : Int) ∧ OkD top p n ∧ ∀ k, k < 256 → z.2 k = dn top p k := by
  refine loopO_inv2 (fun i s => ∃ f : Nat → Int, s = (top, (n : Int), p, (i : Int), f) ∧ ∀ k, k < i → (0 ≤ p k ∧ p k < 8380417) ∧ (0 ≤ dn top p k ∧ dn top p k < 2 ^ n) ∧ f k = dn top p k) 256 ⟨_, rfl, fun k h => by omega⟩ ?_
  rintro i _ hi ⟨f, rfl, hf⟩
  by_cases h : i = 256
  · right
    subst h
    refine ⟨.inr ((n : Int), f), ?_, rfl, ⟨fun k hk => (hf k hk).1, fun k hk => (hf k hk).2.1⟩, fun k hk => (hf k hk).2.2⟩
    simp only [stepp8_0]; simp (disch := omega) only [decide_eq_true_eq, if_neg]
  · have hi' : i < 256 := by omega
    by_cases c1 : p i < 0
    · right
      refine ⟨.inl (92, []), ?_, rfl, fun ho => by have := ho.1 i hi'; omega⟩
      simp only [stepp8_0]
      simp (disch := omega) only [decide_eq_true_eq, decide_eq_false_iff_not, if_pos, if_neg, Int.toNat_natCast, c1, decide_true, Bool.true_eq_false, if_false]
    by_cases c2 : p i ≥ 8380417
    · right
      refine ⟨.inl (92, []), ?_, rfl, fun ho => by have := ho.1 i hi'; omega⟩
      simp only [stepp8_0]
      simp (disch := omega) only [decide_eq_true_eq, decide_eq_false_iff_not, if_pos, Int.toNat_natCast, c1, c2, decide_true, decide_false, Bool.true_eq_false, if_false, if_true]
    have hdn : dn top p i = if p i > 4190208 then top - (p i - 8380417) else top - p i := by unfold dn cen; split <;> rfl
    have hcb := cen_bound (x := p i) (by omega)
    have hdb : -4194304 ≤ dn top p i ∧ dn top p i ≤ 8384512 := by unfold dn; omega
    have hw : (if p i > 4190208 then IntKind.i32.wrap (top - IntKind.i32.wrap (p i - 8380417)) else IntKind.i32.wrap (top - p i)) = dn top p i := by
      rw [hdn]
      split
      · rw [wi32 (n := p i - 8380417) (by omega) (by omega), wi32 (by omega) (by omega)]
      · rw [wi32 (by omega) (by omega)]
    by_cases c3 : dn top p i < 0
    · right
      refine ⟨.inl (92, []), ?_, rfl, fun ho => by have := ho.2 i hi'; omega⟩
      simp only [stepp8_0]
      simp (disch := omega) only [decide_eq_true_eq, decide_eq_false_iff_not, if_pos, Int.toNat_natCast, c1, c2, decide_true, decide_false, Bool.true_eq_false, Bool.false_eq_true, if_false, if_true]
      by_cases c4 : p i > 4190208
      · rw [if_pos c4] at hw ⊢; (try rw [hw]); (try simp [c3])
      · rw [if_neg c4] at hw ⊢; (try rw [hw]); (try simp [c3])
    have hsh := shr_i32 (x := dn top p i) (n := n) (by omega) (by omega)
    by_cases c5 : 2 ^ n ≤ dn top p i
    · right
      refine ⟨.inl (92, []), ?_, rfl, fun ho => by have := ho.2 i hi'; omega⟩
      simp only [stepp8_0]
      simp (disch := omega) only [decide_eq_true_eq, decide_eq_false_iff_not, if_pos, Int.toNat_natCast, c1, c2, decide_true, decide_false, Bool.true_eq_false, Bool.false_eq_true, if_false, if_true]
      by_cases c4 : p i > 4190208
      · rw [if_pos c4] at hw ⊢; rw [hw]; simp [c3, hsh, c5]
      · rw [if_neg c4] at hw ⊢; rw [hw]; simp [c3, hsh, c5]
    · left
      refine ⟨_, hi', ?_, upd f i (dn top p i), rfl, fun k hk => ?_⟩
      · simp only [stepp8_0]
        simp (disch := omega) only [decide_eq_true_eq, decide_eq_false_iff_not, if_pos, Int.toNat_natCast, c1, c2, decide_true, decide_false, Bool.true_eq_false, Bool.false_eq_true, if_false, if_true, wi64]
        by_cases c4 : p i > 4190208
        · rw [if_pos c4] at hw ⊢; rw [hw, wu32 (by omega) (by omega)]; simp [c3, hsh, c5]
        · rw [if_neg c4] at hw ⊢; rw [hw, wu32 (by omega) (by omega)]; simp [c3, hsh, c5]
      · rw [upd_apply]
        by_cases e : k = i
        · subst e; rw [if_pos rfl]; exact ⟨⟨by omega, by omega⟩, ⟨by omega, by omega⟩, rfl⟩
        · rw [if_neg e]; exact hf k (by omega)

theorem wrong_no {top : Int} {n : Nat} (hn : 1 ≤ n ∧ n ≤ 22) (ht : 0 ≤ top ∧ top ≤ 4194304) : Fp19 (top, (n : Int)) = some false := by
  simp only [Fp19]
  rw [if_pos (by simp; omega), if_pos (by simp; omega), if_pos (by simp; omega)]
  simp; omega

theorem OkD.inB {top : Int} {p : Nat → Int} {n : Nat} (h : OkD top p n) {l : Nat → Int} (e : ∀ k, k < 256 → l k = dn top p k) : InB l n := fun i hi => by rw [e i hi]; exact h.2 i hi

theorem down_yes {p : Nat → Int} {top : Int} {n : Nat} (hn : 1 ≤ n ∧ n ≤ 22) (ht : 0 ≤ top ∧ top ≤ 4194304) (h : OkD top p n) : Fp8 (p, top, (n : Int)) = some (LL (32 * n) (byteG (dn top p) n), 0) := by
  simp only [Fp8, wrong_no hn ht, Option.bind_some, Bool.false_eq_true, if_false]
  obtain ⟨r, h1, h2⟩ := down_loop (p := p) hn ht
  rw [h1, Option.bind_some]
  rcases r with z | ⟨z1, z2⟩
  · exact absurd h h2.2
  · obtain ⟨rfl, _, h3⟩ := h2
    simp only []
    rw [lay_spec ⟨hn.1, by omega⟩ (h.inB h3), Option.bind_some, LL_congr fun j hj => byteG_congr h3 hj]
theorem down_no {p : Nat → Int} {top : Int} {n : Nat} (hn : 1 ≤ n ∧ n ≤ 22) (ht : 0 ≤ top ∧ top ≤ 4194304) (h : ¬ OkD top p n) : Fp8 (p, top, (n : Int)) = some ([], 92) := by
  simp only [Fp8, wrong_no hn ht, Option.bind_some, Bool.false_eq_true, if_false]
  obtain ⟨r, h1, h2⟩ := down_loop (p := p) hn ht
  rw [h1, Option.bind_some]
  rcases r with z | ⟨z1, z2⟩
  · obtain ⟨rfl, _⟩ := h2; rfl
  · exact absurd h2.2.1 h

theorem rdown_loop {p : Nat → Int} {top : Int} {n : Nat} (hn : 1 ≤ n ∧ n ≤ 22) (ht : 0 ≤ top ∧ top ≤ 4194304) (hp : Pl p) :
    Ret (loopO stepp10_0 (top, (n : Int), 0, p, (fun _ => 0))) fun r => match r with | .inl z => z = (92, []) ∧ ¬ OkD top p n | .inr z => z.1 = (n : Int) ∧ OkD top p n ∧ ∀ k, k < 256 → z.2 k = dn top p k := by
  refine loopO_inv2 (fun i s => ∃ f : Nat → Int, s = (top, (n : Int), (i : Int), p, f) ∧ ∀ k, k < i → (0 ≤ dn top p k ∧ dn top p k < 2 ^ n) ∧ f k = dn top p k) 256 ⟨_, rfl, fun k h => by omega⟩ ?_
  rintro i _ hi ⟨f, rfl, hf⟩
  by_cases h : i = 256
  · right
    subst h
    refine ⟨.inr ((n : Int), f), ?_, rfl, ⟨hp, fun k hk => (hf k hk).1⟩, fun k hk => (hf k hk).2⟩
    simp only [stepp10_0]; simp (disch := omega) only [decide_eq_true_eq, if_neg]
  · have hi' : i < 256 := by omega
    have hpi := hp i hi'
    have hcb := cen_bound hpi
    have h17 : Fp17 (p i) = some (cen (p i)) := by
      simp only [Fp17, cen, decide_eq_true_eq]
      split
      · rw [wi32 (by omega) (by omega)]
      · rfl
    have hw : IntKind.i64.wrap (IntKind.i64.wrap top - IntKind.i64.wrap (cen (p i))) = dn top p i := by
      unfold dn
      rw [wi64 (n := top) (by omega) (by omega), wi64 (n := cen (p i)) (by omega) (by omega), wi64 (by omega) (by omega)]
    have hu : 0 ≤ IntKind.u64.wrap (n : Int) := u64_le _
    have hsh := shl_i64 (n := n) (by omega)
    by_cases c3 : dn top p i < 0
    · right
      refine ⟨.inl (92, []), ?_, rfl, fun ho => by have := ho.2 i hi'; omega⟩
      simp only [stepp10_0]
      simp (disch := omega) only [decide_eq_true_eq, decide_eq_false_iff_not, if_pos, if_neg, Int.toNat_natCast, h17, Option.bind_some, hw, upd_same, c3, decide_true, Bool.true_eq_false, if_false, not_true_eq_false]
    by_cases c5 : dn top p i ≥ 2 ^ n
    · right
      refine ⟨.inl (92, []), ?_, rfl, fun ho => by have := ho.2 i hi'; omega⟩
      simp only [stepp10_0]
      simp (disch := omega) only [decide_eq_true_eq, decide_eq_false_iff_not, if_pos, Int.toNat_natCast, h17, Option.bind_some, hw, upd_same, c3, hsh, hu, c5, if_true, not_false_eq_true]
    · left
      refine ⟨_, hi', ?_, upd f i (dn top p i), rfl, fun k hk => ?_⟩
      · simp only [stepp10_0]
        simp (disch := omega) only [decide_eq_true_eq, decide_eq_false_iff_not, if_pos, Int.toNat_natCast, h17, Option.bind_some, hw, upd_same, c3, hsh, hu, c5, if_false, if_true, not_false_eq_true]
        rw [wi64 (n := (i : Int) + 1) (by omega) (by omega)]; rfl
      · rw [upd_apply]
        by_cases e : k = i
        · subst e; rw [if_pos rfl]; exact ⟨⟨by omega, by omega⟩, rfl⟩
        · rw [if_neg e]; exact hf k (by omega)

theorem rdown_yes {p : Nat → Int} {top : Int} {n : Nat} (hn : 1 ≤ n ∧ n ≤ 22) (ht : 0 ≤ top ∧ top ≤ 4194304) (h : OkD top p n) : Fp10 (p, top, (n : Int)) = some (LL (32 * n) (byteG (dn top p) n), 0) := by
  simp only [Fp10]
  rw [if_pos (by simp; omega), if_pos (by simp; omega), if_pos (by simp; omega), if_neg (by simp; omega), plain_yes h.1, Option.bind_some]
  obtain ⟨r, h1, h2⟩ := rdown_loop hn ht h.1
  simp only [Bool.not_true, Bool.false_eq_true, if_false]
  rw [h1, Option.bind_some]
  rcases r with z | ⟨z1, z2⟩
  · exact absurd h h2.2
  · obtain ⟨rfl, _, h3⟩ := h2
    simp only []
    rw [rlay_spec ⟨hn.1, by omega⟩ (h.inB h3), Option.bind_some, LL_congr fun j hj => byteG_congr h3 hj]
theorem rdown_no {p : Nat → Int} {top : Int} {n : Nat} (hn : 1 ≤ n ∧ n ≤ 22) (ht : 0 ≤ top ∧ top ≤ 4194304) (h : ¬ OkD top p n) : Fp10 (p, top, (n : Int)) = some ([], 92) := by
  simp only [Fp10]
  rw [if_pos (by simp; omega), if_pos (by simp; omega), if_pos (by simp; omega), if_neg (by simp; omega)]
  by_cases hp : Pl p
  · rw [plain_yes hp, Option.bind_some]
    obtain ⟨r, h1, h2⟩ := rdown_loop hn ht hp
    simp only [Bool.not_true, Bool.false_eq_true, if_false]
    rw [h1, Option.bind_some]
    rcases r with z | ⟨z1, z2⟩
    · obtain ⟨rfl, _⟩ := h2; rfl
    · exact absurd h2.2.1 h
  · rw [plain_no hp, Option.bind_some]
    simp only [Bool.not_false, if_true]

theorem sb_up1 : nat2 (fun e => sb (upd (upd (fun _ => 0) 0 0) 1 1) 1 (8 * 0 + e)) 8 = 2 := by decide +kernel
theorem sb_dn3 : nat2 (fun e => sb (dn 3 (fun _ => 0)) 2 (8 * 0 + e)) 8 = 255 := by decide +kernel

theorem pawake_true : Fp6 () = some true := by
  have h1 : OkU (upd (upd (fun _ => 0) 0 0) 1 1) 1 := by
    intro i _
    rw [upd_apply, upd_apply]
    split
    · decide
    · split <;> decide
  have h2 : OkD 3 (fun _ => 0) 2 := ⟨fun i _ => ⟨Int.le_refl _, show (0 : Int) < 8380417 by omega⟩, fun i _ => by show 0 ≤ (3 : Int) - cen 0 ∧ (3 : Int) - cen 0 < 2 ^ 2; decide⟩
  have e1 := up_yes (n := 1) (by omega) h1
  have e2 := down_yes (n := 2) (by omega) (by omega) h2
  rw [show ((1 : Nat) : Int) = 1 from rfl] at e1
  rw [show ((2 : Nat) : Int) = 2 from rfl] at e2
  have g1 : (LL (32 * 1) (byteG (upd (upd (fun _ => 0) 0 0) 1 1) 1)).getD 0 0 = 2 := by
    rw [LL_getD, if_pos (by omega)]; unfold byteG; rw [sb_up1]; rfl
  have g2 : (LL (32 * 2) (byteG (dn 3 (fun _ => 0)) 2)).getD 0 0 = 255 := by
    rw [LL_getD, if_pos (by omega)]; unfold byteG; rw [sb_dn3]; rfl
  simp only [Fp6, e1, e2, Option.bind_some, LL_length, g1, g2]
  rfl

theorem packPolys_true {p : Nat → Int} {top bits : Int} : Fp3 (p, top, bits) = some true := by
  have up : ∃ a e, Fp7 (p, bits) = some (a, e) ∧ Fp9 (p, bits) = some (a, e) ∧ a.length ≤ 1000 := by
    by_cases hb : bits < 1 ∨ bits > 23
    · refine ⟨[], 1, ?_, ?_, by simp⟩
      · simp only [Fp7]
        by_cases c : bits < 1
        · simp [c]
        · simp [c]; intro h; omega
      · simp only [Fp9]
        by_cases c : bits < 1
        · simp [c]
        · simp [c]; intro h; omega
    · obtain ⟨n, rfl⟩ : ∃ n : Nat, bits = (n : Int) := ⟨bits.toNat, by omega⟩
      by_cases h : OkU p n
      · exact ⟨_, _, up_yes (by omega) h, rup_yes (by omega) h, by simp; omega⟩
      · exact ⟨_, _, up_no (by omega) h, rup_no (by omega) h, by simp⟩
  have down : ∃ a e, Fp8 (p, top, bits) = some (a, e) ∧ Fp10 (p, top, bits) = some (a, e) ∧ a.length ≤ 1000 := by
    by_cases hb : bits < 1 ∨ bits > 22 ∨ top < 0 ∨ top > 4194304
    · have h19 : Fp19 (top, bits) = some true := by
        simp only [Fp19]
        by_cases c : bits < 1
        · simp [c]
        by_cases c2 : bits > 22
        · simp [c, c2]
        by_cases c3 : top < 0
        · simp [c, c2, c3]
        · simp [c, c2, c3]; omega
      refine ⟨[], 1, by simp only [Fp8, h19, Option.bind_some, if_true], ?_, by simp⟩
      simp only [Fp10]
      by_cases c : bits < 1
      · simp [c]
      by_cases c2 : bits > 22
      · simp [c, c2]
      by_cases c3 : top < 0
      · simp [c, c2, c3]
      · simp [c, c2, c3]; intro h; omega
    · obtain ⟨n, rfl⟩ : ∃ n : Nat, bits = (n : Int) := ⟨bits.toNat, by omega⟩
      by_cases h : OkD top p n
      · exact ⟨_, _, down_yes (by omega) (by omega) h, rdown_yes (by omega) (by omega) h, by simp; omega⟩
      · exact ⟨_, _, down_no (by omega) (by omega) h, rdown_no (by omega) (by omega) h, by simp⟩
  obtain ⟨a, e, h1, h2, h3⟩ := up
  obtain ⟨b, f, h4, h5, h6⟩ := down
  simp only [Fp3, pawake_true, h1, h2, h4, h5, Option.bind_some, same_self a (by omega), same_self b (by omega), if_true, BEq.rfl]

theorem packPolys_law {x0 : Nat → Int} {x1 x2 : Int} (h0 : ∀ i, i < 256 → (Lit.int .i32 (x0 i)).wf = true) (h1 : (Lit.int .i32 x1).wf = true) (h2 : (Lit.int .i64 x2).wf = true) : Fp3 (x0, x1, x2) = some true := packPolys_true
end Go.Abs
