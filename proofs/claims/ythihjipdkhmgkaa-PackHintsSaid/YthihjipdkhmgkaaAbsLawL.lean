/- From what is handed in to a law's function, to what the statement asks. -/
import Derived.Test.YthihjipdkhmgkaaAbsTabL
import Derived.WalkKit
import Derived.ProofKit
import Derived.OpenShut
import Derived.ChangeOld
import Derived.Below
import Derived.SizedLaws
set_option linter.unusedVariables false
set_option linter.unusedSimpArgs false
namespace Go.Abs
open Go.ChangeShapes Go.WideShapes Go.ChangeAt Go.RowKit

/-- A value that came in is this one, whatever regions the call has. -/
def In (W : World) (a : AV) (v : Value) : Prop := ∀ (h : HeapT) (β : Nat → Value), (∀ b, ¬ Own h β b) → AVRel h β W a v

section
variable {H : Type} {enc : TypeId × Value → H} {P : Program} {W : World} {base : Nat} {spare : Nat → Bool} {held : Bool} {r : Reach} {b0 : Nat} {t : TypeId} {v : Value} {d : DataW H} {ps : List MemPlace}

theorem in_int {k : IntKind} (ht : P.underlying t = some (.int k)) (hval : Value.okWide P W r b0 t v) (hd : DataW.Trod enc P W base spare held t v d ps) : ∃ x : Int, (Lit.int k x).wf = true ∧ In W (.c (.int k x)) v := by
  obtain ⟨n, rfl, _, _, hw⟩ := open_int ht hval hd
  exact ⟨n, hw, fun h β _ => by simp only [AVRel, CVRel]⟩

theorem in_bool (ht : P.underlying t = some .bool) (hval : Value.okWide P W r b0 t v) (hd : DataW.Trod enc P W base spare held t v d ps) : ∃ x : Bool, In W (.c (.bool x)) v := by
  obtain ⟨n, rfl, _, _⟩ := open_bool ht hval hd
  exact ⟨n, fun h β _ => by simp only [AVRel, CVRel]⟩

def intAt (l : List Value) (i : Nat) : Int := match l[i]? with | some (.int _ x) => x | _ => 0

theorem in_array {n : Nat} {e : TypeId} {k : IntKind} (ht : P.underlying t = some (.array n e)) (he : P.underlying e = some (.int k)) (hc : P.cellsOf e = 1) (hct : P.cellsOf t = n) (hval : Value.okWide P W r b0 t v) (hd : DataW.Trod enc P W base spare held t v d ps) :
    ∃ f : Nat → Int, (∀ i, i < n → (Lit.int k (f i)).wf = true) ∧ In W (.agg [.ints k n f]) v := by
  have hcs : ∃ cs, v = .agg cs ∧ cs.size = P.cellsOf t := by
    simp only [Value.okWide, ht] at hval
    obtain ⟨cs, h1, h2, _⟩ := hval
    exact ⟨cs, h1, h2⟩
  obtain ⟨cs, rfl, hsz⟩ := hcs
  obtain ⟨fuel, hf⟩ := hd
  obtain ⟨xs, m, _, _, hlen, hxn, hel⟩ := DataW.trod_array ht hf
  have hone : ∀ i, i < n → ∃ x : Int, cs.toList[i]? = some (.int k x) ∧ (Lit.int k x).wf = true := by
    intro i hi
    have h1 := hel i hi
    rw [hc, Nat.mul_one] at h1
    have hx : xs[i]? = some xs[i] := List.getElem?_eq_getElem (by omega)
    rw [hx] at h1
    obtain ⟨x, h2, _, h3⟩ := DataW.trod_int he h1
    refine ⟨x, ?_, h3⟩
    have h4 : ((cs.toList.drop i).take 1)[0]? = some (.int k x) := by
      have : (Value.agg cs).cells.toList = cs.toList := rfl
      rw [this] at h2
      rw [h2]; rfl
    simpa [List.getElem?_take] using h4
  have hat : ∀ i x, cs.toList[i]? = some (.int k x) → intAt cs.toList i = x := fun i x h => by simp [intAt, h]
  refine ⟨intAt cs.toList, fun i hi => ?_, fun h β _ => ?_⟩
  · obtain ⟨x, h1, h2⟩ := hone i hi
    rw [hat i x h1]; exact h2
  · simp only [AVRel, SegsRel]
    refine ⟨cs.toList, by simp, [], ?_, rfl⟩
    rw [List.append_nil]
    apply List.ext_getElem?
    intro i
    by_cases hi : i < n
    · obtain ⟨x, h1, h2⟩ := hone i hi
      rw [fnV_get _ _ _ _ hi, h1, hat i x h1]
    · rw [List.getElem?_eq_none (by simp [hsz, hct]; omega), List.getElem?_eq_none (by simp; omega)]

theorem in_ints {e : TypeId} {k : IntKind} (ht : P.underlying t = some (.slice e)) (he : P.underlying e = some (.int k)) (hc : P.cellsOf e = 1) (hval : Value.okWide P W r b0 t v) (hd : DataW.Trod enc P W base spare held t v d ps) :
    ∃ xs : List Int, (∀ x ∈ xs, (Lit.int k x).wf = true) ∧ xs.length ≤ maxLen ∧ In W (.c (.fz (.int k) xs none)) v := by
  obtain ⟨a, len, cap, rfl⟩ := okWide_slice ht hval
  obtain ⟨fuel, hf⟩ := hd
  rcases open_ints ht he hc hf with ⟨hcs, _⟩ | ⟨x, l, c, zs, hcs, _, hl, hm, hz, _, hcell, hwz⟩
  · simp [Value.cells] at hcs
    obtain ⟨rfl, rfl, rfl⟩ := hcs
    refine ⟨[], by simp, by simp, fun h β _ => ?_⟩
    simp only [AVRel, CVRel]
    exact .fz (.int k) [] none none 0 (Nat.le_refl _) (Nat.le_refl _) (fun _ => ⟨rfl, rfl⟩) (fun a h => by cases h)
  · simp [Value.cells] at hcs
    obtain ⟨rfl, rfl, rfl⟩ := hcs
    have hzl : len ≤ zs.length := by rw [hz]; split <;> omega
    have htl : (zs.take len).length = len := by simp; omega
    refine ⟨zs.take len, fun y hy => hwz y (List.mem_of_mem_take hy), by rw [htl]; omega, fun h β hno => ?_⟩
    simp only [AVRel, CVRel]
    have key := FzV.fz (w := W) (own := Own h β) (.int k) (zs.take len) none (some x) cap (Nat.le_refl _) (by show (zs.take len).length ≤ cap; rw [htl]; exact hl) (fun h => by cases h) (by
      intro a' ha i hi
      cases ha
      have hsz : i * (DT.int k).size = i := Nat.mul_one i
      rw [hsz]
      have hi' : i < (zs.take len).length := hi
      have hi2 : i < zs.length := by rw [htl] at hi'; omega
      refine .one _ [] _ _ (hcell i hi2) (hno _) ?_ (.nil _)
      have : (zs.take len)[i] = zs.getD i 0 := by simp [List.getD_eq_getElem?_getD, hi2]
      show FzV W (Own h β) (.int k ((zs.take len)[i])) _
      rw [this]
      exact .int k _)
    have key2 : FzV W (Own h β) (.fz (.int k) (zs.take len) none) (.slice (some x) (List.length (α := Int) (zs.take len)) cap) := key
    rw [htl] at key2
    exact key2

theorem in_ints_sz {e : TypeId} {k : IntKind} (ht : P.underlying t = some (.slice e)) (he : P.underlying e = some (.int k)) (hc : P.cellsOf e = 1) (hval : Value.okWide P W r b0 t v) (hsz : ∀ elems rest, d = .slice elems rest → (elems.length + rest.length) * P.bytesOf e ≤ reachBytes) (hd : DataW.Trod enc P W base spare held t v d ps) :
    ∃ xs : List Int, (∀ x ∈ xs, (Lit.int k x).wf = true) ∧ xs.length * P.bytesOf e ≤ reachBytes ∧ In W (.c (.fz (.int k) xs none)) v := by
  obtain ⟨a, len, cap, rfl⟩ := okWide_slice ht hval
  obtain ⟨fuel, hf⟩ := hd
  rcases open_ints ht he hc hf with ⟨hcs, _⟩ | ⟨x, l, c, zs, hcs, _, hl, hm, hz, hd, hcell, hwz⟩
  · simp [Value.cells] at hcs
    obtain ⟨rfl, rfl, rfl⟩ := hcs
    refine ⟨[], by simp, by simp, fun h β _ => ?_⟩
    simp only [AVRel, CVRel]
    exact .fz (.int k) [] none none 0 (Nat.le_refl _) (Nat.le_refl _) (fun _ => ⟨rfl, rfl⟩) (fun a h => by cases h)
  · simp [Value.cells] at hcs
    obtain ⟨rfl, rfl, rfl⟩ := hcs
    have hzl : len ≤ zs.length := by rw [hz]; split <;> omega
    have htl : (zs.take len).length = len := by simp; omega
    refine ⟨zs.take len, fun y hy => hwz y (List.mem_of_mem_take hy), by
      have h1 := hsz _ _ (congrArg Prod.fst hd)
      simp only [lits, List.length_map] at h1
      have h2 : (zs.take len).length ≤ (zs.take len).length + (zs.drop len).length := Nat.le_add_right _ _
      exact Nat.le_trans (Nat.mul_le_mul_right _ h2) h1, fun h β hno => ?_⟩
    simp only [AVRel, CVRel]
    have key := FzV.fz (w := W) (own := Own h β) (.int k) (zs.take len) none (some x) cap (Nat.le_refl _) (by show (zs.take len).length ≤ cap; rw [htl]; exact hl) (fun h => by cases h) (by
      intro a' ha i hi
      cases ha
      have hsz : i * (DT.int k).size = i := Nat.mul_one i
      rw [hsz]
      have hi' : i < (zs.take len).length := hi
      have hi2 : i < zs.length := by rw [htl] at hi'; omega
      refine .one _ [] _ _ (hcell i hi2) (hno _) ?_ (.nil _)
      have : (zs.take len)[i] = zs.getD i 0 := by simp [List.getD_eq_getElem?_getD, hi2]
      show FzV W (Own h β) (.int k ((zs.take len)[i])) _
      rw [this]
      exact .int k _)
    have key2 : FzV W (Own h β) (.fz (.int k) (zs.take len) none) (.slice (some x) (List.length (α := Int) (zs.take len)) cap) := key
    rw [htl] at key2
    exact key2

theorem Rel.below {w0 : World} {nt : Nat} {β : Nat → Value} {st : St} {a : Act} {w : World} (R : Rel P w0 FP.nil nt β st a w) : Below w0.heap.size w0 w :=
  ⟨R.os, R.tape, R.output, R.grow, fun b hb => R.keep b hb FP.nil_blk⟩

/-- What is handed in to a law's function, as a state. -/
theorem Rel.start {us : List Value} {st : St} {w : World} (hn : us.length ≤ ioN) (hheap : ∀ q, st.heap q = none) (hin : ∀ t av, st.env t = some av → ∃ u, us[t]? = some u ∧ In w av u) :
    Rel P w FP.nil us.length (fun _ => undef) st { tmps := us.toArray, defers := [] } w := by
  have hno : ∀ b, ¬ Own st.heap (fun _ => undef) b := by
    rintro b (⟨r, g, h, _⟩ | ⟨r, _, h⟩)
    · rw [hheap r] at h; cases h
    · simp [undef, blkOf] at h
  refine ⟨rfl, by simp, hn, fun t av ht => ?_, fun r g h => ?_, fun r r' g g' b h => ?_, fun b hb => ?_, fun b hb => (FP.nil_hid hb).elim, fun _ _ => rfl, rfl, rfl, rfl, Nat.le_refl _, fun _ _ _ => rfl, fun q bv g h => (by cases h), fun q bv h => (by cases h)⟩
  · obtain ⟨u, h1, h2⟩ := hin t av ht
    have e : us.toArray.getD t undef = u := by
      rw [Array.getD_eq_getD_getElem?]
      simp [h1]
    show AVRel _ _ _ _ (us.toArray.getD t undef)
    rw [e]
    exact h2 _ _ hno
  · rw [hheap r] at h; cases h
  · rw [hheap r] at h; cases h
  · exact (hno b (.inl hb)).elim

/-- A law's call: it returns true, and nothing that was there has turned. -/
theorem law_call {f : Nat} {S : FL} {F : S.inT → Option S.outT} (h : CallsL P f S F)
    {us : List Value} {x : S.inT} {y : S.outT} {w : World} (hlen : us.length = S.n) (hF : F x = some y) (hn : Nat.ble S.n ioN = true) (hfix : S.inp.fix = []) (hheap : varsRegs S.inp.vars x = [])
    (hres : S.res.length = 1) (hout : (encOut S.outs y).1 = .ret) (hst : (encOut S.outs y).2.env 0 = some (.c (.bool true)))
    (hin : ∀ t av, (t, av) ∈ varsEnvs S.inp.vars x → ∃ u, us[t]? = some u ∧ In w av u) :
    Calls P f us.toArray w fun e w' => e = .returned (.bool true) ∧ Below w.heap.size w w' := by
  have R := Rel.start (P := P) (us := us) (st := S.inp.enc x) (w := w) (by rw [hlen]; exact nble.1 hn) (fun q => by
    show ofL (varsRegs S.inp.vars x) q = none
    rw [hheap]; rfl) (fun t av ht => by
    have ht : ofL (fixEnvs S.inp.fix ++ varsEnvs S.inp.vars x) t = some av := ht
    rw [hfix] at ht
    exact hin t av (ofL_mem ht))
  refine (h us x y w FP.nil _ hlen rfl hF R).mono ?_
  rintro e w' ⟨β', vs, R', he, hl⟩
  have hl := hl (fun t n hp => by rw [hout] at hp; cases hp)
  rw [hres] at hl
  rw [hout] at he
  match vs, hl with
  | [v], _ =>
    have h0 := R'.env 0 _ hst
    simp only [AVRel, CVRel] at h0
    have h0 : v = .bool true := h0
    subst h0
    exact ⟨he, R'.below⟩
end
end Go.Abs
