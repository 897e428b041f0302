/- Operations that compute, all together; places; indexes. -/
import Derived.Test.YthihjipdkhmgkaaAbsPureL
set_option linter.unusedVariables false
set_option linter.unusedSimpArgs false
namespace Go.Abs
open Go.RowKit

section
variable {P : Program} {w0 : World} {fp : FP} {nt : Nat} {β : Nat → Value} {st : St} {a : Act} {w : World} {T : Tab} {o : Oper} {Q : Exit → Act → World → Prop}

theorem guard_flat (hT : TabOk P T) : ∀ (fuel t : Nat) (k : IntKind) (n d : Nat), flatInts fuel T t = some (k, n) → P.eqGuardType (d + fuel) t = false := by
  intro fuel
  induction fuel with
  | zero => intro t k n d e; cases e
  | succ fuel ih =>
    intro t k n d e
    simp only [flatInts] at e
    cases hti : T.get t with
    | none => rw [hti] at e; cases e
    | some ti =>
      rw [hti] at e
      have hok := hT t ti hti
      obtain ⟨td, sz, by', z⟩ := ti
      cases td <;> simp only [] at e <;> try (cases e; done)
      · rw [show d + (fuel + 1) = (d + fuel) + 1 by omega, Program.eqGuardType, tdInt hok]
      · rename_i len e'
        cases hf : flatInts fuel T e' with
        | none => rw [hf] at e; cases e
        | some km =>
          obtain ⟨k', m⟩ := km
          rw [show d + (fuel + 1) = (d + fuel) + 1 by omega, Program.eqGuardType, tdArray hok]
          exact ih e' k' m d hf

theorem eqGuard_bool (op : BinOp) (t : TypeId) (x y : Operand) (u v : Bool) : (eqGuard op t x y (.bool u) (.bool v)).run P w = .ok () w := by cases op <;> simp [eqGuard]
theorem eqGuard_ptr (op : BinOp) (t : TypeId) (x y : Operand) (u v : Option Addr) : (eqGuard op t x y (.pointer u) (.pointer v)).run P w = .ok () w := by cases op <;> simp [eqGuard]
theorem eqGuard_str (op : BinOp) (t : TypeId) (x y : Operand) (u v : ByteArray) : (eqGuard op t x y (.string u) (.string v)).run P w = .ok () w := by cases op <;> simp [eqGuard]
theorem eqGuard_int (op : BinOp) (t : TypeId) (x y : Operand) (k k' : IntKind) (u v : Int) : (eqGuard op t x y (.int k u) (.int k' v)).run P w = .ok () w := by cases op <;> simp [eqGuard]

theorem run_equalIn_ptr (d : Nat) {t el : TypeId} (u : Option Addr) (h : P.underlying t = some (.pointer el)) : (Op.equalIn (d + 1) t (.pointer u) (.pointer none)).run P w = .ok u.isNone w := by
  cases u <;> simp [Op.equalIn, run_underlying h]

theorem litOf_eval {x : Operand} {av : AV} {k : IntKind} {n c : Int} (R : Rel P w0 fp nt β st a w) (e : opd st x = some av) (hv : av = .c (.int k n)) (hc : litOf x = some c) : n = c := by
  subst hv
  unfold litOf at hc
  split at hc
  · cases hc; cases e; rfl
  · cases hc

theorem eqAV_rel (hT : TabOk P T) (hdep : 4 ≤ P.depth) (R : Rel P w0 fp nt β st a w) {t : Nat} {x y : AV} {u v : Value} (hx : AVRel st.heap β w x u) (hy : AVRel st.heap β w y v) {r : Bool} (e : eqAV T st.heap t x y = some r) (op : BinOp) (p q : Operand) :
    (eqGuard op t p q u v).run P w = .ok () w ∧ (binOp .eql t u v).run P w = .ok (.bool r) w ∧ (binOp .neq t u v).run P w = .ok (.bool !r) w := by
  unfold eqAV at e
  split at e
  · rename_i b1 b2
    cases hti : T.get t with
    | none => rw [hti] at e; cases e
    | some ti =>
      rw [hti] at e
      have hok := hT t ti hti
      obtain ⟨td, sz, by', z⟩ := ti
      cases td <;> simp only [] at e <;> try (cases e; done)
      cases e
      simp only [AVRel, CVRel] at hx hy
      subst hx hy
      refine ⟨eqGuard_bool _ _ _ _ _ _, ?_, ?_⟩ <;>
        simp [binOp, Op.equal, Op.maxDepth, run_equalIn_bool' w 9999 t b1 b2 (tdBool hok)]
  · rename_i k n f k' m g
    cases hti : T.get t with
    | none => rw [hti] at e; cases e
    | some ti =>
    cases hf : flatInts 4 T t with
    | none => rw [hti, hf] at e; obtain ⟨td, sz, by', z⟩ := ti; cases td <;> cases e
    | some kn =>
      obtain ⟨k2, n2⟩ := kn
      rw [hti, hf] at e
      have hagg : isAggT ti.d = true := by
        obtain ⟨td, sz, by', z⟩ := ti
        cases td <;> first | rfl | (cases e; done)
      have e2 : (bif k == k' && k2 == k && Nat.beq n m && Nat.beq n n2 then some (arrEq n f g) else none) = some r := by
        obtain ⟨td, sz, by', z⟩ := ti
        cases td <;> first | exact e | (cases e; done)
      clear e
      cases hb : (k == k' && k2 == k && Nat.beq n m && Nat.beq n n2) <;> simp only [hb, cond_true, cond_false] at e2
      · cases e2
      cases e2
      simp only [Bool.and_eq_true] at hb
      obtain rfl := beqK.1 hb.1.1.1
      obtain rfl := beqK.1 hb.1.1.2
      obtain rfl := nbeq.1 hb.1.2
      obtain rfl := nbeq.1 hb.2
      obtain ⟨l1, rfl, hs1⟩ := hx
      obtain ⟨l2, rfl, hs2⟩ := hy
      obtain ⟨r1, rfl, hr1⟩ := hs1
      obtain ⟨r2, rfl, hr2⟩ := hs2
      simp only [SegsRel] at hr1 hr2
      subst hr1 hr2
      simp only [List.append_nil]
      have hsz : ∀ (d : Nat) (v1 v2 : Value), partV t (isAggT ti.d) ti.size (fnV k2 n f) 0 = some v1 → partV t (isAggT ti.d) ti.size (fnV k2 n g) 0 = some v2 → (Op.equalIn (d + 4) t v1 v2).run P w = .ok (arrEq n f g) w ∧ ti.size = n :=
        fun d v1 v2 p1 p2 => flat_eq hT 4 t k2 n d 0 f g _ _ v1 v2 ti hf hti (fun j hj => by rw [Nat.zero_add, fnV_get _ _ _ _ hj]) (fun j hj => by rw [Nat.zero_add, fnV_get _ _ _ _ hj]) p1 p2
      have hn : ti.size = n := (hsz 0 _ _ (by rw [partV, if_pos hagg]) (by rw [partV, if_pos hagg])).2
      have hv : ∀ q : Nat → Int, partV t (isAggT ti.d) ti.size (fnV k2 n q) 0 = some (.agg (fnV k2 n q).toArray) := by
        intro q
        rw [partV, if_pos hagg, hn, List.drop_zero, List.take_of_length_le (by simp)]
      have heq := (hsz 9996 _ _ (hv f) (hv g)).1
      have hg : P.eqGuardType P.depth t = false := by
        have := guard_flat (P := P) hT 4 t k2 n (P.depth - 4) hf
        rwa [Nat.sub_add_cancel hdep] at this
      refine ⟨run_eqGuard_agg _ op t p q _ _ hg, ?_, ?_⟩
      · rw [run_eql_struct, heq]; rfl
      · rw [run_neq_struct, heq]; rfl
  · rename_i r' b' o' m'
    cases hti : T.get t with
    | none => rw [hti] at e; cases e
    | some ti =>
      have hok := hT t ti hti
      simp only [AVRel, CVRel] at hx hy
      obtain ⟨g, hg, hp⟩ := hx
      rw [hti, hg] at e
      obtain ⟨td, sz, by', z⟩ := ti
      cases td <;> cases g <;> (try simp only [] at e) <;> try (cases e; done)
      cases e
      obtain ⟨b, _, rfl, _⟩ := hp
      subst hy
      obtain ⟨el, hu⟩ := tdPtr hok
      refine ⟨eqGuard_ptr _ _ _ _ _ _, ?_, ?_⟩ <;>
        simp [binOp, Op.equal, Op.maxDepth, run_equalIn_ptr 9999 _ hu]
  · cases hti : T.get t with
    | none => rw [hti] at e; cases e
    | some ti =>
      rw [hti] at e
      have hok := hT t ti hti
      obtain ⟨td, sz, by', z⟩ := ti
      cases td <;> simp only [] at e <;> try (cases e; done)
      cases e
      simp only [AVRel, CVRel] at hx hy
      subst hx hy
      obtain ⟨el, hu⟩ := tdPtr hok
      refine ⟨eqGuard_ptr _ _ _ _ _ _, ?_, ?_⟩ <;>
        simp [binOp, Op.equal, Op.maxDepth, run_equalIn_ptr 9999 _ hu]
  · cases hti : T.get t with
    | none => rw [hti] at e; cases e
    | some ti =>
      rw [hti] at e
      have hok := hT t ti hti
      obtain ⟨td, sz, by', z⟩ := ti
      cases td <;> simp only [] at e <;> try (cases e; done)
      cases e
      simp only [AVRel, CVRel] at hx hy
      obtain ⟨A, rfl, _⟩ := hx
      subst hy
      obtain ⟨el, hu⟩ := tdPtr hok
      refine ⟨eqGuard_ptr _ _ _ _ _ _, ?_, ?_⟩ <;>
        simp [binOp, Op.equal, Op.maxDepth, run_equalIn_ptr 9999 _ hu]
  · rename_i s1 s2
    cases e
    simp only [AVRel, CVRel] at hx hy
    subst hx hy
    refine ⟨eqGuard_str _ _ _ _ _ _, ?_, ?_⟩ <;> simp [binOp, Op.stringOp, bne]
  · cases e

/-- what a binary operation comes to -/
theorem binAV_rel (hT : TabOk P T) (hdep : 4 ≤ P.depth) (R : Rel P w0 fp nt β st a w) {t : Nat} {op : BinOp} {p q : Operand} {x y : AV} (ex : opd st p = some x) (ey : opd st q = some y) {rq : Option Req} {δ : Delta}
    (e : binAV T st.heap t op x y (litOf q) = some (rq, δ)) (hr : ∀ r, rq = some r → r.p) :
    δ.hw = [] ∧ ∃ v, (do eqGuard op t p q (a.eval p) (a.eval q); binOp op t (a.eval p) (a.eval q) : Sem Value).run P w = .ok v w ∧ AVRel st.heap β w δ.av v := by
  have hx := opd_rel R ex
  have hy := opd_rel R ey
  unfold binAV at e
  split at e
  · rename_i k n yk m
    simp only [AVRel, CVRel] at hx hy
    rw [hx, hy]
    obtain ⟨h1, h2, h3⟩ := shiftOp_rel (P := P) (w := w) (β := β) (yk := yk) (.inl rfl) (fun c hc => litOf_eval R ey rfl hc) e hr t st.heap
    exact ⟨h1, _, by simp [Sem.run_bind, eqGuard_int, h2], h3⟩
  · rename_i k n yk m
    simp only [AVRel, CVRel] at hx hy
    rw [hx, hy]
    obtain ⟨h1, h2, h3⟩ := shiftOp_rel (P := P) (w := w) (β := β) (yk := yk) (.inr rfl) (fun c hc => litOf_eval R ey rfl hc) e hr t st.heap
    exact ⟨h1, _, by simp [Sem.run_bind, eqGuard_int, h2], h3⟩
  · rename_i op' k n k' m hs1 hs2
    simp only [AVRel, CVRel] at hx hy
    rw [hx, hy]
    cases hk : k == k' <;> simp only [hk, cond_true, cond_false] at e
    · cases e
    obtain rfl := beqK.1 hk
    obtain ⟨h1, h2, h3⟩ := intOp_rel (P := P) (w := w) (β := β) ⟨hs1, hs2⟩ (fun c hc => litOf_eval R ey rfl hc) e hr t st.heap
    exact ⟨h1, _, by simp [Sem.run_bind, eqGuard_int, h2], h3⟩
  · cases he : eqAV T st.heap t x y with
    | none => rw [he] at e; cases e
    | some r =>
      rw [he] at e
      cases e
      obtain ⟨h1, h2, h3⟩ := eqAV_rel hT hdep R hx hy he .eql p q
      exact ⟨rfl, .bool r, by simp [Sem.run_bind, h1, h2], by simp only [AVRel, CVRel]⟩
  · cases he : eqAV T st.heap t x y with
    | none => rw [he] at e; cases e
    | some r =>
      rw [he] at e
      cases e
      obtain ⟨h1, h2, h3⟩ := eqAV_rel hT hdep R hx hy he .neq p q
      exact ⟨rfl, .bool (!r), by simp [Sem.run_bind, h1, h3], by simp only [AVRel, CVRel]⟩
  · cases e
end
end Go.Abs
