/- Operations that compute: integers, comparisons, equality. -/
import Derived.Test.YthihjipdkhmgkaaAbsMemL
set_option linter.unusedVariables false
set_option linter.unusedSimpArgs false
namespace Go.Abs
open Go.RowKit

section
variable {P : Program} {w0 : World} {fp : FP} {nt : Nat} {β : Nat → Value} {st : St} {a : Act} {w : World} {T : Tab} {o : Oper} {Q : Exit → Act → World → Prop}

def avV : AV → Value
  | .c (.int k n) => .int k n
  | .c (.bool b) => .bool b
  | _ => undef

/-- what a binary operation on integers comes to -/
theorem intOp_rel {op : BinOp} {k : IntKind} {x y : Int} {yc : Option Int} {rq : Option Req} {δ : Delta} (hs : op ≠ .shl ∧ op ≠ .shr) (hyc : ∀ c, yc = some c → y = c) (e : intOp op k x y yc = some (rq, δ)) (hr : ∀ r, rq = some r → r.p)
    (t : Nat) (h : Heap) : δ.hw = [] ∧ (binOp op t (.int k x) (.int k y)).run P w = .ok (avV δ.av) w ∧ AVRel h β w δ.av (avV δ.av) := by
  cases op <;> simp only [intOp, val1] at e
  case shl => exact absurd rfl hs.1
  case shr => exact absurd rfl hs.2
  case quo =>
    have hy : y ≠ 0 ∧ δ = ⟨.c (.int k (k.wrap (x.tdiv y))), [], []⟩ := by
      cases yc with
      | none =>
        cases e
        exact ⟨hr _ rfl, rfl⟩
      | some c =>
        obtain rfl := hyc c rfl
        simp only [] at e
        cases hc : y == 0 <;> simp only [hc, cond_true, cond_false] at e
        · cases e; exact ⟨by simpa using hc, rfl⟩
        · cases e
    obtain ⟨h0, rfl⟩ := hy
    exact ⟨rfl, by simp [avV, binOp, Op.intDiv, h0], by simp only [AVRel, CVRel, avV]⟩
  case rem =>
    have hy : y ≠ 0 ∧ δ = ⟨.c (.int k (x.tmod y)), [], []⟩ := by
      cases yc with
      | none =>
        cases e
        exact ⟨hr _ rfl, rfl⟩
      | some c =>
        obtain rfl := hyc c rfl
        simp only [] at e
        cases hc : y == 0 <;> simp only [hc, cond_true, cond_false] at e
        · cases e; exact ⟨by simpa using hc, rfl⟩
        · cases e
    obtain ⟨h0, rfl⟩ := hy
    exact ⟨rfl, by simp [avV, binOp, Op.intDiv, h0], by simp only [AVRel, CVRel, avV]⟩
  all_goals first
    | (cases e; done)
    | (cases e
       refine ⟨rfl, ?_, by simp only [AVRel, CVRel, avV]⟩
       simp [avV, binOp, Op.intArith, Op.intBits, Op.intCmp, bitsAnd, bitsOr, bitsXor, bitsAndNot])

theorem shiftOp_rel {op : BinOp} (hop : op = .shl ∨ op = .shr) {k yk : IntKind} {x y : Int} {yc : Option Int} {rq : Option Req} {δ : Delta} (hyc : ∀ c, yc = some c → y = c) (e : shiftOp op k x y yc = some (rq, δ)) (hr : ∀ r, rq = some r → r.p)
    (t : Nat) (h : Heap) : δ.hw = [] ∧ (binOp op t (.int k x) (.int yk y)).run P w = .ok (avV δ.av) w ∧ AVRel h β w δ.av (avV δ.av) := by
  have key : ∀ δ', shiftOp op k x y yc = some (rq, δ') → (match op with | .shl => δ' = ⟨.c (.int k (shlI k x y)), [], []⟩ | _ => δ' = ⟨.c (.int k (shrI k x y)), [], []⟩) ∧ 0 ≤ y := by
    intro δ' e'
    rcases hop with rfl | rfl <;> simp only [shiftOp, val1] at e'
    all_goals
      cases yc with
      | none =>
        simp only [] at e'
        cases e'; exact ⟨rfl, hr _ rfl⟩
      | some c =>
        obtain rfl := hyc c rfl
        simp only [] at e'
        cases hd : decide (y < 0) <;> simp only [hd, cond_true, cond_false] at e'
        · cases e'; exact ⟨rfl, by simpa using hd⟩
        · cases e'
  obtain ⟨h1, h2⟩ := key δ e
  have h3 : ¬ y < 0 := by omega
  rcases hop with rfl | rfl
  · simp only [] at h1
    subst h1
    exact ⟨rfl, by simp [avV, binOp, Op.shift, h3, shlI], by simp only [AVRel, CVRel, avV]⟩
  · simp only [] at h1
    subst h1
    exact ⟨rfl, by simp [avV, binOp, Op.shift, h3, shrI], by simp only [AVRel, CVRel, avV]⟩

theorem unAV_rel {op : UnOp} {av : AV} {x : Value} (hx : AVRel st.heap β w av x) {rq : Option Req} {δ : Delta} (e : unAV op av = some (rq, δ)) : δ.hw = [] ∧ (Op.unary op x).run P w = .ok (avV δ.av) w ∧ AVRel st.heap β w δ.av (avV δ.av) := by
  unfold unAV at e
  split at e <;> (try simp only [val1] at e) <;> cases e
  · simp only [AVRel, CVRel] at hx
    subst hx
    exact ⟨rfl, by simp [avV, Op.unary], by simp only [AVRel, CVRel, avV]⟩
  · simp only [AVRel, CVRel] at hx
    subst hx
    exact ⟨rfl, by simp [avV, Op.unary, Op.intArith], by simp only [AVRel, CVRel, avV]⟩
  · simp only [AVRel, CVRel] at hx
    subst hx
    exact ⟨rfl, by simp [avV, Op.unary, Op.intBits, notI, bitsXor], by simp only [AVRel, CVRel, avV]⟩

/-! ### Equality of arrays of integers -/
def partV (t : Nat) (aggT : Bool) (n : Nat) (cs : List Value) (off : Nat) : Option Value := if aggT then some (.agg ((cs.drop off).take n).toArray) else cs[off]?

theorem run_part {t : Nat} {ti : TI} (hT : TIOk P t ti) (cs : Array Value) (off : Nat) {v : Value} (h : partV t (isAggT ti.d) ti.size cs.toList off = some v) : (part t cs off).run P w = .ok v w := by
  obtain ⟨i, hi, hsz, _⟩ := hT.info
  obtain ⟨d, hu, hd⟩ := hT.desc
  unfold part
  simp only [Sem.run_bind, isAgg_rel hu hd, Result.andThen_ok]
  cases ha : isAggT ti.d with
  | true =>
    simp only [partV, ha, if_true, Option.some.injEq] at h
    subst h
    simp only [if_true, Sem.run_bind, run_sizeOf hi, Result.andThen_ok, Sem.run_pure, hsz]
    congr 2
    apply Array.ext'
    simp [List.take_drop]
  | false =>
    simp only [partV, ha, Bool.false_eq_true, if_false] at h
    simp only [Bool.false_eq_true, if_false]
    simp only [Array.getElem?_toList] at h
    simp [h]


/-- The cells of flat types. -/
theorem fnV_drop_take (k : IntKind) (m off n : Nat) (f : Nat → Int) (h : off + n ≤ m) : ((fnV k m f).drop off).take n = fnV k n (fun j => f (off + j)) := by
  apply List.ext_getElem?
  intro j
  rw [List.getElem?_take, List.getElem?_drop]
  by_cases hj : j < n
  · rw [if_pos hj, fnV_get _ _ _ _ (by omega), fnV_get _ _ _ _ hj]
  · rw [if_neg hj, List.getElem?_eq_none (by simp; omega)]

theorem tdInt {P : Program} {t : Nat} {k : IntKind} {s b : Nat} {z : List CV} (h : TIOk P t ⟨.int k, s, b, z⟩) : P.underlying t = some (.int k) := by
  obtain ⟨d, hu, hd⟩ := h.desc
  cases d <;> simp only [TDRel] at hd
  rw [hd] at hu; exact hu
theorem tdBool {P : Program} {t : Nat} {s b : Nat} {z : List CV} (h : TIOk P t ⟨.bool, s, b, z⟩) : P.underlying t = some .bool := by
  obtain ⟨d, hu, hd⟩ := h.desc
  cases d <;> simp only [TDRel] at hd
  exact hu
theorem tdStr {P : Program} {t : Nat} {s b : Nat} {z : List CV} (h : TIOk P t ⟨.str, s, b, z⟩) : P.underlying t = some .string := by
  obtain ⟨d, hu, hd⟩ := h.desc
  cases d <;> simp only [TDRel] at hd
  exact hu
theorem tdPtr {P : Program} {t : Nat} {s b : Nat} {z : List CV} (h : TIOk P t ⟨.ptr, s, b, z⟩) : ∃ e, P.underlying t = some (.pointer e) := by
  obtain ⟨d, hu, hd⟩ := h.desc
  cases d <;> simp only [TDRel] at hd
  exact ⟨_, hu⟩
theorem tdSlice {P : Program} {t e : Nat} {s b : Nat} {z : List CV} (h : TIOk P t ⟨.slice e, s, b, z⟩) : P.underlying t = some (.slice e) := by
  obtain ⟨d, hu, hd⟩ := h.desc
  cases d <;> simp only [TDRel] at hd
  rw [hd] at hu; exact hu
theorem tdArray {P : Program} {t n e : Nat} {s b : Nat} {z : List CV} (h : TIOk P t ⟨.array n e, s, b, z⟩) : P.underlying t = some (.array n e) := by
  obtain ⟨d, hu, hd⟩ := h.desc
  cases d <;> simp only [TDRel] at hd
  obtain ⟨rfl, rfl⟩ := hd; exact hu
theorem tdStruct {P : Program} {t : Nat} {fs : List (Nat × Nat)} {s b : Nat} {z : List CV} (h : TIOk P t ⟨.struct fs, s, b, z⟩) : ∃ l, P.underlying t = some (.struct l) ∧ l.toList.map (fun f => (f.type, f.offset)) = fs := by
  obtain ⟨d, hu, hd⟩ := h.desc
  cases d <;> simp only [TDRel] at hd
  exact ⟨_, hu, hd⟩

/-- all of a run of checks -/
def allSem (c : Nat → Bool) : List Nat → Bool
  | [] => true
  | i :: r => c i && allSem c r

theorem allSem_range (c : Nat → Bool) (n : Nat) : allSem c (List.range n) = (List.range n).all c := by
  generalize List.range n = l
  induction l with
  | nil => rfl
  | cons i r ih => simp [allSem, ih]

theorem arrEq_split (n m : Nat) (f g : Nat → Int) : arrEq (n * m) f g = (List.range n).all fun i => arrEq m (fun j => f (i * m + j)) (fun j => g (i * m + j)) := by
  rw [Bool.eq_iff_iff]
  simp only [arrEq, List.all_eq_true, List.mem_range, beq_iff_eq]
  constructor
  · intro h i hi j hj
    exact h _ (by calc i * m + j < i * m + m := by omega
                    _ = (i + 1) * m := by rw [Nat.add_mul, Nat.one_mul]
                    _ ≤ n * m := Nat.mul_le_mul_right _ hi)
  · intro h p hp
    rcases Nat.eq_zero_or_pos m with rfl | hm
    · simp at hp
    have h1 := h (p / m) (by rw [Nat.div_lt_iff_lt_mul hm]; exact hp) (p % m) (Nat.mod_lt _ hm)
    rwa [Nat.mul_comm (p / m) m, Nat.div_add_mod] at h1

def eqRun (d e n : Nat) (xs ys : Array Value) : List Nat → Sem Bool
  | [] => pure true
  | i :: r => do
    if !(← Op.equalIn d e (← part e xs (i * n)) (← part e ys (i * n))) then pure false else eqRun d e n xs ys r

theorem run_equalIn_array (d t n e : Nat) {i : TypeInfo} (xs ys : Array Value) (ht : P.underlying t = some (.array n e)) (he : P.info? e = some i) :
    (Op.equalIn (d + 1) t (.agg xs) (.agg ys)).run P w = (eqRun d e i.size xs ys (List.range n)).run P w := by
  simp only [Op.equalIn, Sem.run_bind, run_underlying ht, Result.andThen_ok, run_sizeOf he]
  rw [Std.Legacy.Range.forIn_eq_forIn_range']
  simp only [Std.Legacy.Range.size, Nat.sub_zero, Nat.add_sub_cancel, Nat.div_one, ← List.range_eq_range']
  generalize List.range n = l
  clear ht he
  induction l generalizing w with
  | nil => simp [eqRun]
  | cons j l ih =>
    simp only [List.forIn_cons, eqRun, Sem.run_bind]
    generalize (part e xs (j * i.size)).run P w = r1
    cases r1 with
    | ok a w1 =>
      simp only [Result.andThen_ok]
      generalize (part e ys (j * i.size)).run P w1 = r2
      cases r2 with
      | ok b w2 =>
        simp only [Result.andThen_ok]
        generalize (Op.equalIn d e a b).run P w2 = r3
        cases r3 with
        | ok r w3 =>
          cases r
          · simp only [Result.andThen_ok, Bool.not_false, if_true, Sem.run_pure]
          · simp only [Result.andThen_ok, Bool.not_true, Bool.false_eq_true, if_false, Sem.run_pure]
            exact ih (w := w3)
        | halt x w3 => simp [Result.andThen]
      | halt x w2 => simp [Result.andThen]
    | halt x w1 => simp [Result.andThen]

theorem flat_eq (hT : TabOk P T) : ∀ (fuel t : Nat) (k : IntKind) (n d off : Nat) (f g : Nat → Int) (l1 l2 : List Value) (v1 v2 : Value) (ti : TI), flatInts fuel T t = some (k, n) → T.get t = some ti →
    (∀ j, j < n → l1[off + j]? = some (.int k (f j))) → (∀ j, j < n → l2[off + j]? = some (.int k (g j))) →
    partV t (isAggT ti.d) ti.size l1 off = some v1 → partV t (isAggT ti.d) ti.size l2 off = some v2 → (Op.equalIn (d + fuel) t v1 v2).run P w = .ok (arrEq n f g) w ∧ ti.size = n := by
  intro fuel
  induction fuel with
  | zero => intro t k n d off f g l1 l2 v1 v2 ti e; cases e
  | succ fuel ih =>
    intro t k n d off f g l1 l2 v1 v2 ti e hti h1 h2 p1 p2
    have hok := hT t ti hti
    simp only [flatInts, hti] at e
    obtain ⟨td, sz, by', z⟩ := ti
    cases td <;> simp only [] at e <;> try (cases e; done)
    case int k' =>
      cases e
      simp only [isAggT, partV, Bool.false_eq_true, if_false] at p1 p2
      have q1 := h1 0 (by omega)
      have q2 := h2 0 (by omega)
      rw [Nat.add_zero, p1] at q1
      rw [Nat.add_zero, p2] at q2
      cases q1
      cases q2
      refine ⟨?_, by simpa using hok.agg1 rfl⟩
      rw [show d + (fuel + 1) = (d + fuel) + 1 by omega, run_equalIn_int _ _ _ _ _ _ _ (tdInt hok)]
      simp [arrEq, List.range_succ]
    case array len e' =>
      cases hf : flatInts fuel T e' with
      | none => rw [hf] at e; cases e
      | some km =>
        obtain ⟨k', m⟩ := km
        rw [hf] at e
        simp only [] at e
        cases hb : Nat.beq sz (len * m) <;> simp only [hb, cond_true, cond_false] at e
        · cases e
        cases e
        obtain rfl := nbeq.1 hb
        simp only [isAggT, partV, if_true, Option.some.injEq] at p1 p2
        subst p1 p2
        obtain ⟨te, hte⟩ : ∃ te, T.get e' = some te := by
          cases fuel with
          | zero => cases hf
          | succ fuel =>
            cases hg : T.get e' with
            | none => simp only [flatInts, hg] at hf; cases hf
            | some te => exact ⟨te, rfl⟩
        have hoke := hT e' te hte
        obtain ⟨i, hi, hsz, _⟩ := hoke.info
        refine ⟨?_, rfl⟩
        rw [show d + (fuel + 1) = (d + fuel) + 1 by omega, run_equalIn_array _ _ _ _ _ _ (tdArray hok) hi, hsz, arrEq_split]
        have hm : te.size = m ∨ len = 0 := by
          rcases Nat.eq_zero_or_pos len with h | h
          · exact .inr h
          · left
            have hv : ∀ (l : List Value) (q : Nat → Int), (∀ j, j < len * m → l[off + j]? = some (.int k (q j))) → 0 < m → ∃ v, partV e' (isAggT te.d) te.size ((l.drop off).take (len * m)) 0 = some v := by
              intro l q hq hm0
              unfold partV
              split
              · exact ⟨_, rfl⟩
              · have hpos : 0 < len * m := Nat.mul_pos h hm0
                exact ⟨.int k (q 0), by rw [List.getElem?_take, if_pos hpos, List.getElem?_drop]; exact hq 0 hpos⟩
            rcases Nat.eq_zero_or_pos m with h0 | h0
            · -- no integers at all: the size is told by the elements' own flatness
              subst h0
              have : ∀ fuel e' k' te, flatInts fuel T e' = some (k', 0) → T.get e' = some te → te.size = 0 := by
                intro fuel e' k' te hf hte
                cases fuel with
                | zero => cases hf
                | succ fuel =>
                  simp only [flatInts, hte] at hf
                  obtain ⟨td, sz, by'', z'⟩ := te
                  cases td <;> simp only [] at hf <;> try (cases hf; done)
                  rename_i n2 e2
                  cases hf2 : flatInts fuel T e2 with
                  | none => rw [hf2] at hf; cases hf
                  | some km2 =>
                    obtain ⟨k2, m2⟩ := km2
                    rw [hf2] at hf
                    simp only [] at hf
                    cases hb2 : Nat.beq sz (n2 * m2) <;> simp only [hb2, cond_true, cond_false] at hf
                    · cases hf
                    · have := nbeq.1 hb2
                      injection hf with hf
                      injection hf with _ hf
                      simp only []
                      omega
              exact this fuel e' k te hf hte
            · obtain ⟨u1, hu1⟩ := hv l1 f h1 h0
              obtain ⟨u2, hu2⟩ := hv l2 g h2 h0
              have hge : m ≤ len * m := Nat.le_mul_of_pos_left _ h
              exact (ih e' k m d 0 f g ((l1.drop off).take (len * m)) ((l2.drop off).take (len * m)) u1 u2 te hf hte
                (fun j hj => by rw [List.getElem?_take, if_pos (by omega), List.getElem?_drop, Nat.zero_add]; exact h1 j (by omega))
                (fun j hj => by rw [List.getElem?_take, if_pos (by omega), List.getElem?_drop, Nat.zero_add]; exact h2 j (by omega)) hu1 hu2).2
        rcases hm with hm | hm
        · rw [hm]
          have key : ∀ l : List Nat, (∀ i ∈ l, i < len) → (eqRun (d + fuel) e' m ((l1.drop off).take (len * m)).toArray ((l2.drop off).take (len * m)).toArray l).run P w =
              .ok (l.all fun i => arrEq m (fun j => f (i * m + j)) (fun j => g (i * m + j))) w := by
            intro l
            induction l with
            | nil => intro _; simp [eqRun]
            | cons i r ihr =>
              intro hl
              have hi' := hl i (by simp)
              have hle : i * m + m ≤ len * m := by
                calc i * m + m = (i + 1) * m := by rw [Nat.add_mul, Nat.one_mul]
                  _ ≤ len * m := Nat.mul_le_mul_right _ hi'
              have cells : ∀ (ls : List Value) (q : Nat → Int), (∀ j, j < len * m → ls[off + j]? = some (.int k (q j))) →
                  ∀ j, j < m → ((ls.drop off).take (len * m))[i * m + j]? = some (.int k (q (i * m + j))) := by
                intro ls q hq j hj
                rw [List.getElem?_take, if_pos (by omega), List.getElem?_drop]
                exact hq _ (by omega)
              have pv : ∀ (ls : List Value) (q : Nat → Int), (∀ j, j < len * m → ls[off + j]? = some (.int k (q j))) → ∃ v, partV e' (isAggT te.d) te.size ((ls.drop off).take (len * m)) (i * m) = some v := by
                intro ls q hq
                unfold partV
                split
                · exact ⟨_, rfl⟩
                · rename_i hna
                  have h1' := hoke.agg1 (by simpa using hna)
                  have := cells ls q hq 0 (by omega)
                  exact ⟨_, by simpa using this⟩
              obtain ⟨u1, hu1⟩ := pv l1 f h1
              obtain ⟨u2, hu2⟩ := pv l2 g h2
              have he := (ih e' k m d (i * m) (fun j => f (i * m + j)) (fun j => g (i * m + j)) _ _ u1 u2 te hf hte (cells l1 f h1) (cells l2 g h2) hu1 hu2).1
              simp only [eqRun, Sem.run_bind, run_part hoke _ _ (show partV e' (isAggT te.d) te.size ((l1.drop off).take (len * m)).toArray.toList (i * m) = some u1 by simpa using hu1), Result.andThen_ok,
                run_part hoke _ _ (show partV e' (isAggT te.d) te.size ((l2.drop off).take (len * m)).toArray.toList (i * m) = some u2 by simpa using hu2), he]
              cases hb : arrEq m (fun j => f (i * m + j)) (fun j => g (i * m + j))
              · simp [hb]
              · simp only [Bool.not_true, Bool.false_eq_true, if_false, List.all_cons, hb, Bool.true_and]
                exact ihr fun j hj => hl j (by simp [hj])
          exact key _ fun i hi => List.mem_range.1 hi
        · subst hm
          simp [eqRun]
end
end Go.Abs
