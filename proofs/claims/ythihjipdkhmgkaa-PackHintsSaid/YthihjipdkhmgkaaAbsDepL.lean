/- What a step depends on: its operands and the regions that it lists; what it writes is among them. -/
import Derived.Test.YthihjipdkhmgkaaAbsCoreL
set_option linter.unusedVariables false
set_option linter.unusedSimpArgs false
namespace Go.Abs
universe u

abbrev HeapT := Nat → Option Reg

def Same (h h' : HeapT) (rs : List Nat) : Prop := ∀ r, r ∈ rs → h' r = h r

def WIn (δ : Delta) : Prop := ∀ r, r ∈ δ.hw.map (·.1) → r ∈ δ.hr
def RIn (rs : List Nat) (δ : Delta) : Prop := ∀ r, r ∈ rs → r ∈ δ.hr
theorem WIn.nil {av : AV} {hr : List Nat} : WIn ⟨av, [], hr⟩ := fun r hr => by simp at hr

theorem cond_some {α : Type u} {b : Bool} {x : Option α} {y : α} (h : (bif b then x else none) = some y) : b = true ∧ x = some y := by
  cases b
  · cases h
  · exact ⟨rfl, h⟩

theorem loadAt_congr {ti : TI} {h h' : HeapT} {x : CV} (H : Same h h' (regOf (.c x))) : loadAt ti h' x = loadAt ti h x := by
  cases x <;> simp only [loadAt]
  rw [H _ (by simp [regOf])]
theorem loadAt_in {ti : TI} {h : HeapT} {x : CV} {δ : Delta} (e : loadAt ti h x = some δ) : RIn (regOf (.c x)) δ ∧ WIn δ := by
  unfold loadAt at e
  split at e
  · rename_i r base o room
    cases hb : Nat.ble ti.size room <;> simp only [hb, cond_true, cond_false] at e
    · cases e
    split at e
    · split at e
      · split at e
        · cases e; exact ⟨fun q h => h, .nil⟩
        · cases e
      · cases e
    · cases hg : isAggT ti.d <;> rw [hg] at e <;> cases e <;> exact ⟨fun q h => h, .nil⟩
    · cases e
  · rename_i cs o room
    cases hb : Nat.ble ti.size room <;> simp only [hb, cond_true, cond_false] at e
    · cases e
    split at e
    · cases e; exact ⟨fun q h => h, .nil⟩
    · cases e
  · cases e

theorem storeAt_congr {ti : TI} {h h' : HeapT} {v : AV} {x : CV} (H : Same h h' (regOf (.c x))) : storeAt ti h' v x = storeAt ti h v x := by
  cases x <;> simp only [storeAt]
  rw [H _ (by simp [regOf])]
theorem storeAt_in {ti : TI} {h : HeapT} {v : AV} {x : CV} {δ : Delta} (e : storeAt ti h v x = some δ) : RIn (regOf (.c x)) δ ∧ WIn δ := by
  unfold storeAt at e
  split at e
  · rename_i r base o room
    cases hb : (Nat.ble ti.size room && Nat.beq (valSize v) ti.size) <;> simp only [hb, cond_true, cond_false] at e
    · cases e
    split at e
    · split at e
      · split at e
        · cases e; exact ⟨fun q h => h, fun q h => by simpa using h⟩
        · cases e
      · cases e
    · split at e
      · obtain ⟨_, e⟩ := cond_some e; cases e
        exact ⟨fun q h => h, fun q h => by simpa using h⟩
      · cases e
    · cases e
  · cases e

theorem cellsB_congr {h h' : HeapT} {r : Nat} (H : h' r = h r) : cellsB h' r = cellsB h r := by unfold cellsB; rw [H]
theorem liveB_congr {h h' : HeapT} {r : Nat} (H : h' r = h r) : liveB h' r = liveB h r := by unfold liveB; rw [H]

theorem eqAV_congr {T : Tab} {h h' : HeapT} {t : Nat} {a b : AV} (H : Same h h' (regOf a)) : eqAV T h' t a b = eqAV T h t a b := by
  unfold eqAV
  split
  case h_3 => rw [H _ (by simp [regOf])]
  all_goals rfl

theorem intOp_nil {op : BinOp} {k : IntKind} {x y : Int} {yc : Option Int} {rq : Option Req} {δ : Delta} (e : intOp op k x y yc = some (rq, δ)) : δ.hw = [] := by
  cases op <;> simp only [intOp] at e <;> try (cases e; rfl)
  all_goals (cases yc <;> (try simp only [] at e) <;> first | (cases e; rfl) | (cases e; done) | skip)
  all_goals (rename_i c; cases hc : (c == 0) <;> rw [hc] at e <;> cases e; rfl)

theorem shiftOp_nil {op : BinOp} {k : IntKind} {x y : Int} {yc : Option Int} {rq : Option Req} {δ : Delta} (e : shiftOp op k x y yc = some (rq, δ)) : δ.hw = [] := by
  cases op <;> simp only [shiftOp] at e <;> try (cases e; done)
  all_goals (cases yc <;> simp only [val1] at e <;> first | (cases e; rfl) | skip)
  all_goals (rename_i c; cases hc : decide (c < 0) <;> rw [hc] at e <;> cases e; rfl)

theorem binAV_congr {T : Tab} {h h' : HeapT} {t : Nat} {op : BinOp} {a b : AV} {yc : Option Int} (H : Same h h' (regOf a)) : binAV T h' t op a b yc = binAV T h t op a b yc := by
  unfold binAV
  split <;> try rfl
  all_goals (rw [eqAV_congr H])
theorem binAV_in {T : Tab} {h : HeapT} {t : Nat} {op : BinOp} {a b : AV} {yc : Option Int} {rq : Option Req} {δ : Delta} (e : binAV T h t op a b yc = some (rq, δ)) : RIn (regOf a) δ ∧ δ.hw = [] := by
  unfold binAV at e
  split at e
  · exact ⟨fun q h => by simp [regOf] at h, shiftOp_nil e⟩
  · exact ⟨fun q h => by simp [regOf] at h, shiftOp_nil e⟩
  · obtain ⟨_, e⟩ := cond_some e
    · exact ⟨fun q h => by simp [regOf] at h, intOp_nil e⟩
  · split at e <;> cases e
    exact ⟨fun q h => h, rfl⟩
  · split at e <;> cases e
    exact ⟨fun q h => h, rfl⟩
  · cases e

theorem unAV_nil {op : UnOp} {a : AV} {rq : Option Req} {δ : Delta} (e : unAV op a = some (rq, δ)) : δ.hw = [] := by
  unfold unAV at e
  split at e <;> cases e <;> rfl

theorem fieldAddr_congr {T : Tab} {h h' : HeapT} {s f : Nat} {x : AV} (H : Same h h' (regOf x)) : fieldAddrAV T h' s f x = fieldAddrAV T h s f x := by
  unfold fieldAddrAV
  split
  · rw [cellsB_congr (H _ (by simp [regOf]))]
  all_goals rfl
theorem fieldAddr_in {T : Tab} {h : HeapT} {s f : Nat} {x : AV} {rq : Option Req} {δ : Delta} (e : fieldAddrAV T h s f x = some (rq, δ)) : RIn (regOf x) δ ∧ WIn δ := by
  unfold fieldAddrAV at e
  split at e
  · split at e
    · split at e
      · split at e
        · obtain ⟨_, e⟩ := cond_some e; cases e
          exact ⟨fun q h => h, .nil⟩
        · cases e
      · cases e
    · cases e
  · split at e
    · split at e
      · split at e
        · obtain ⟨_, e⟩ := cond_some e; cases e
          exact ⟨fun q h => h, .nil⟩
        · cases e
      · cases e
    · cases e
  · cases e

theorem fieldAV_nil {T : Tab} {s f : Nat} {x : AV} {rq : Option Req} {δ : Delta} (e : fieldAV T s f x = some (rq, δ)) : δ.hw = [] := by
  unfold fieldAV at e
  split at e
  · split at e
    · split at e
      · split at e
        · split at e <;> cases e; rfl
        · cases e
      · cases e
    · cases e
  · cases e

theorem indexAddr_congr {T : Tab} {h h' : HeapT} {t : Nat} {i : Int} {x : AV} (H : Same h h' (regOf x)) : indexAddrAV T h' t x i = indexAddrAV T h t x i := by
  unfold indexAddrAV
  split
  · split
    · rw [liveB_congr (H _ (by simp [regOf]))]
    all_goals rfl
  · split
    · rw [H _ (by simp [regOf])]
    · rw [H _ (by simp [regOf])]
    · rw [cellsB_congr (H _ (by simp [regOf]))]
    all_goals rfl
  · rfl
theorem indexAddr_in {T : Tab} {h : HeapT} {t : Nat} {i : Int} {x : AV} {rq : Option Req} {δ : Delta} (e : indexAddrAV T h t x i = some (rq, δ)) : RIn (regOf x) δ ∧ WIn δ := by
  unfold indexAddrAV at e
  split at e
  · split at e
    · obtain ⟨_, e⟩ := cond_some e; cases e
      exact ⟨fun q h => h, .nil⟩
    · obtain ⟨_, e⟩ := cond_some e; cases e
      exact ⟨fun q h => h, .nil⟩
    · cases e
  · split at e
    · split at e
      · obtain ⟨_, e⟩ := cond_some e; cases e
        exact ⟨fun q h => h, .nil⟩
      · cases e
    · split at e
      · obtain ⟨_, e⟩ := cond_some e; cases e
        exact ⟨fun q h => h, .nil⟩
      · cases e
    · obtain ⟨_, e⟩ := cond_some e; cases e
      exact ⟨fun q h => h, .nil⟩
    · obtain ⟨_, e⟩ := cond_some e; cases e
      exact ⟨fun q h => h, .nil⟩
    · cases e
  · cases e

theorem indexAV_nil {T : Tab} {t : Nat} {i : Int} {x : AV} {rq : Option Req} {δ : Delta} (e : indexAV T t x i = some (rq, δ)) : δ.hw = [] := by
  unfold indexAV at e
  split at e
  · split at e
    · rename_i te _
      cases hb : isAggT te.d <;> rw [hb] at e
      · obtain ⟨_, e⟩ := cond_some e; cases e; rfl
      · obtain ⟨_, e⟩ := cond_some e; cases e; rfl
    · cases e
  · cases e; rfl
  · cases e

theorem lenAV_congr {T : Tab} {h h' : HeapT} {t : Nat} {x : AV} (H : Same h h' (regOf x)) : lenAV T h' t x = lenAV T h t x := by
  unfold lenAV
  split
  · split
    · rw [H _ (by simp [regOf])]
    · rw [H _ (by simp [regOf])]
    · rw [cellsB_congr (H _ (by simp [regOf]))]
    all_goals rfl
  all_goals rfl
theorem lenAV_hw {T : Tab} {h : HeapT} {t : Nat} {x : AV} {rq : Option Req} {δ : Delta} (e : lenAV T h t x = some (rq, δ)) : δ.hw = [] ∧ (∀ h' : HeapT, Same h h' δ.hr → lenAV T h' t x = some (rq, δ)) := by
  unfold lenAV at e ⊢
  split at e
  · split at e
    · rename_i r
      split at e
      · rename_i xs hx
        cases e
        refine ⟨rfl, fun h' H => ?_⟩
        show (match h' r with | some (.row _ _ xs) => _ | _ => none) = _
        rw [H r (by simp), hx]
      · cases e
    · rename_i r _ _
      split at e
      · rename_i xs hx
        cases e
        refine ⟨rfl, fun h' H => ?_⟩
        show (match h' r with | some (.row _ _ _) => _ | _ => none) = _
        rw [H r (by simp), hx]
      · cases e
    · obtain ⟨hc, e⟩ := cond_some e
      cases e
      refine ⟨rfl, fun h' H => ?_⟩
      show (bif cellsB h' _ then _ else none) = _
      rw [cellsB_congr (H _ (by simp)), hc]
      rfl
    · cases e; exact ⟨rfl, fun _ _ => rfl⟩
    · cases e; exact ⟨rfl, fun _ _ => rfl⟩
    · cases e
  · split at e
    · cases e; exact ⟨rfl, fun _ _ => rfl⟩
    · cases e
  · cases e; exact ⟨rfl, fun _ _ => rfl⟩
  · cases e

theorem sliceAV_congr {T : Tab} {h h' : HeapT} {t : Nat} {x : AV} {lo hi : Option (Int × Option Int)} (H : Same h h' (regOf x)) : sliceAV T h' t x lo hi = sliceAV T h t x lo hi := by
  unfold sliceAV
  split
  · split
    · rw [cellsB_congr (H _ (by simp [regOf]))]
    · rfl
  · split
    · rw [H _ (by simp [regOf])]
    · rw [H _ (by simp [regOf])]
    all_goals rfl
  · rfl
theorem sliceAV_in {T : Tab} {h : HeapT} {t : Nat} {x : AV} {lo hi : Option (Int × Option Int)} {rq : Option Req} {δ : Delta} (e : sliceAV T h t x lo hi = some (rq, δ)) : RIn (regOf x) δ ∧ WIn δ := by
  unfold sliceAV at e
  split at e
  · split at e
    · obtain ⟨_, e⟩ := cond_some e
      split at e <;> cases e <;> exact ⟨fun q h => h, .nil⟩
    · cases e
  · split at e
    · split at e
      · split at e
        · obtain ⟨_, e⟩ := cond_some e
          split at e <;> cases e <;> exact ⟨fun q h => h, .nil⟩
        · cases e
      · cases e
    · split at e
      · split at e
        · obtain ⟨_, e⟩ := cond_some e
          split at e <;> cases e <;> exact ⟨fun q h => h, .nil⟩
        · cases e
      · cases e
    · split at e
      · obtain ⟨_, e⟩ := cond_some e
        split at e <;> cases e <;> exact ⟨fun q h => h, .nil⟩
      · cases e
    · cases e
  · cases e

theorem sliceInts_congr {h h' : HeapT} {x : AV} (H : Same h h' (regOf x)) : sliceInts h' x = sliceInts h x := by
  unfold sliceInts
  split
  · rw [H _ (by simp [regOf])]
  · rw [H _ (by simp [regOf])]
  · rw [H _ (by simp [regOf])]
  all_goals rfl
theorem sliceInts_in {h : HeapT} {x : AV} {k : IntKind} {ys : List Int} {rs : List Nat} (e : sliceInts h x = some (k, ys, rs)) : rs = regOf x := by
  unfold sliceInts at e
  split at e
  · split at e <;> cases e; rfl
  · split at e <;> cases e; rfl
  · split at e
    · split at e
      · obtain ⟨_, e⟩ := cond_some e; cases e; rfl
      · cases e
    · cases e
  · cases e; rfl
  · cases e

theorem appendAV_dep {T : Tab} {h h' : HeapT} {dst : Option Nat} {t : Nat} {s x : AV} {rq : Option Req} {δ : Delta} (e : appendAV T h dst t s x = some (rq, δ)) (H : Same h h' δ.hr) : appendAV T h' dst t s x = some (rq, δ) ∧ WIn δ := by
  unfold appendAV at e ⊢
  split at e
  · rename_i d el _ _ _ h1
    simp only [h1]
    cases h2 : T.get el with
    | none => rw [h2] at e; cases e
    | some te =>
      obtain ⟨td, sz, by', z⟩ := te
      rw [h2] at e
      simp only [] at e
      cases h3 : h d with
      | some g => rw [h3] at e; cases td <;> cases e
      | none =>
        rw [h3] at e
        cases td <;> try (cases e; done)
        rename_i k
        simp only [] at e
        split at e
        · rename_i k2 ys rs hys
          cases hk : k2 == k <;> simp only [hk, cond_true, cond_false] at e
          · cases e
          have hrs : ∀ r, r ∈ regOf x → isNilSlice x = false → r ∈ rs := by
            intro r hr hn
            rw [hn] at hys
            simp only [cond_false] at hys
            rw [sliceInts_in hys]; exact hr
          have hx : Same h h' rs → (bif isNilSlice x then some (k, ([] : List Int), ([] : List Nat)) else sliceInts h' x) = some (k2, ys, rs) := by
            intro hs
            cases hn : isNilSlice x with
            | true => rw [hn] at hys; exact hys
            | false =>
              rw [hn] at hys
              simp only [cond_false] at hys ⊢
              rw [sliceInts_congr (fun r hr => hs r (hrs r hr hn))]; exact hys
          split at e
          · rename_i r
            cases h4 : h r with
            | none => rw [h4] at e; cases e
            | some g =>
              rw [h4] at e
              cases g <;> try (cases e; done)
              rename_i e' k1 xs
              simp only [] at e
              cases hb : (Nat.beq el e' && k1 == k) <;> simp only [hb, cond_true, cond_false] at e
              · cases e
              cases e
              refine ⟨?_, fun q hq => ?_⟩
              · rw [H d (by simp), h3]
                simp only [h2]
                rw [hx (fun q hq => H q (by simp [hq]))]
                simp only [hk, cond_true]
                rw [H r (by simp), h4]
                simp only [hb, cond_true]
              · simp at hq ⊢; rcases hq with h | h <;> simp [h]
          · cases e
            refine ⟨?_, fun q hq => ?_⟩
            · rw [H d (by simp), h3]
              simp only [h2]
              rw [hx (fun q hq => H q (by simp [hq]))]
              simp only [hk, cond_true]
            · simp at hq ⊢; simp [hq]
          · cases e
        · cases e
  · cases e

theorem opds_congr {st st2 : St} : ∀ {l : List Operand}, (∀ x ∈ l, opd st2 x = opd st x) → opds st2 l = opds st l := by
  intro l
  induction l with
  | nil => exact fun _ => rfl
  | cons x l ih =>
    intro h
    simp only [opds]
    rw [h x (by simp), ih (fun y hy => h y (by simp [hy]))]

theorem partsAV_congr {st st2 : St} : ∀ {l : List (Nat × Operand)}, (∀ x ∈ l.map (·.2), opd st2 x = opd st x) → partsAV st2 l = partsAV st l := by
  intro l
  induction l with
  | nil => exact fun _ => rfl
  | cons p l ih =>
    obtain ⟨i, x⟩ := p
    intro h
    simp only [partsAV]
    rw [h x (by simp), ih (fun y hy => h y (by simp only [List.map_cons, List.mem_cons]; exact .inr hy))]

theorem newReg_dep {st st2 : St} {dst : Option Nat} {segs : List CV} {rq : Option Req} {δ : Delta} (e : newReg st dst segs = some (rq, δ)) (H : Same st.heap st2.heap δ.hr) : newReg st2 dst segs = some (rq, δ) ∧ WIn δ := by
  unfold newReg at e ⊢
  cases dst with
  | none => cases e
  | some d =>
    simp only [] at e ⊢
    cases hd : st.heap d with
    | some g => rw [hd] at e; cases e
    | none =>
      rw [hd] at e
      cases e
      refine ⟨?_, fun r hr => by simpa using hr⟩
      rw [H d (by simp), hd]

theorem aop_dep {T : Tab} {o : Oper} {st st2 : St} {rq : Option Req} {δ : Delta} (e : aop T o st = some (rq, δ)) (hO : ∀ x ∈ o.op.operands, opd st2 x = opd st x) (H : Same st.heap st2.heap δ.hr) :
    aop T o st2 = some (rq, δ) ∧ WIn δ := by
  have nil : δ.hw = [] → WIn δ := fun h r hr => by simp [h] at hr
  cases hop : o.op <;> rw [hop] at hO <;> simp only [Op.operands] at hO <;> simp only [aop, hop] at e ⊢ <;> try (cases e; done)
  case move x =>
    rw [hO x (by simp)]; refine ⟨e, ?_⟩
    split at e <;> cases e; exact .nil
  case assign x =>
    rw [hO x (by simp)]
    cases hn : isNilConst x with
    | true =>
      rw [hn] at e
      simp only [cond_true] at e ⊢
      unfold nilRow at e ⊢
      split at e
      · rename_i d el _ _ _ h1 h2
        split at e
        · rename_i h3 h4
          cases e
          refine ⟨?_, fun r hr => by simpa using hr⟩
          rw [H d (by simp), h4]
          simp only [h3]
        · rename_i hno
          cases e
          refine ⟨?_, .nil⟩
          rw [H d (by simp)]
          split
          · rename_i h5 h6
            exact absurd h6 (fun h6 => hno _ _ _ _ h5 h6)
          · rfl
      · cases e
        exact ⟨rfl, .nil⟩
      · cases e
    | false =>
      rw [hn] at e
      simp only [cond_false] at e ⊢
      refine ⟨e, ?_⟩
      split at e <;> cases e; exact .nil
  case pick c a b =>
    rw [hO c (by simp), hO a (by simp), hO b (by simp)]; refine ⟨e, ?_⟩
    split at e
    · split at e <;> cases e; exact .nil
    · split at e <;> cases e; exact .nil
    · cases e
  case alloc el =>
    split at e
    · exact newReg_dep e H
    · cases e
  case box el x =>
    rw [hO x (by simp)]
    split at e
    · split at e
      · exact newReg_dep e H
      · cases e
    · cases e
  case build t ps =>
    rw [partsAV_congr (by simpa using hO)]; refine ⟨e, ?_⟩
    split at e
    · split at e <;> cases e; exact .nil
    · split at e <;> cases e; exact .nil
    · obtain ⟨_, e⟩ := cond_some e
      split at e <;> cases e; exact .nil
    · cases e
  case buildSlice t n ps =>
    rw [partsAV_congr (by simpa using hO)]
    split at e
    · rename_i d el _ _ _ l h1 h2 h3
      split at e
      · rename_i k _ _ k0 z0 h4 h5
        split at e
        · rename_i xs h6
          obtain ⟨hb, e⟩ := cond_some e
          cases e
          refine ⟨?_, fun r hr => by simpa using hr⟩
          rw [H d (by simp), h5]
          rw [h4]; simp only [h6, hb, cond_true]
        · cases e
      · rename_i h4 h5
        split at e
        · rename_i segs h6
          obtain ⟨hb, e⟩ := cond_some e
          cases e
          refine ⟨?_, fun r hr => by simpa using hr⟩
          rw [H d (by simp), h5]
          rw [h4]; simp only [h6, hb, cond_true]
        · cases e
      · cases e
    · cases e
  case load t x =>
    rw [hO x (by simp)]
    split at e
    · split at e
      · rename_i h3
        cases e
        obtain ⟨h4, h5⟩ := loadAt_in h3
        refine ⟨?_, h5⟩
        rw [loadAt_congr (fun r hr => H r (h4 r hr)), h3]
      · cases e
    · cases e
  case store t x y =>
    rw [hO x (by simp), hO y (by simp)]
    split at e
    · split at e
      · rename_i h3
        cases e
        obtain ⟨h4, h5⟩ := storeAt_in h3
        refine ⟨?_, h5⟩
        rw [storeAt_congr (fun r hr => H r (h4 r hr)), h3]
      · cases e
    · cases e
  case nilCheck x =>
    rw [hO x (by simp)]
    split at e
    · rename_i r _ _ _ h1
      obtain ⟨hb, e⟩ := cond_some e
      cases e
      refine ⟨?_, .nil⟩
      rw [liveB_congr (H r (by simp)), hb]
      rfl
    · cases e; exact ⟨rfl, .nil⟩
    · cases e
  case binOp op t x y so =>
    rw [hO x (by simp), hO y (by simp)]
    split at e
    · obtain ⟨h4, h5⟩ := binAV_in e
      refine ⟨?_, nil h5⟩
      rw [binAV_congr (fun r hr => H r (h4 r hr))]; exact e
    · cases e
  case unOp op t x =>
    rw [hO x (by simp)]; refine ⟨e, ?_⟩
    split at e
    · exact nil (unAV_nil e)
    · cases e
  case convert s d x =>
    rw [hO x (by simp)]; refine ⟨e, ?_⟩
    split at e <;> cases e; exact .nil
  case sliceToArrayPointer d x =>
    rw [hO x (by simp)]
    split at e
    · rename_i r h1 h2
      split at e
      · rename_i h3
        obtain ⟨hb, e⟩ := cond_some e
        cases e
        refine ⟨?_, .nil⟩
        rw [H r (by simp), h3]
        simp only [hb, cond_true]
      · cases e
    · rename_i r _ _ _ _ h1 h2
      obtain ⟨hb, e⟩ := cond_some e
      cases e
      refine ⟨?_, .nil⟩
      rw [cellsB_congr (H r (by simp)), hb]
      rfl
    · rename_i r _ _ h1 h2
      split at e
      · rename_i h3
        obtain ⟨hb, e⟩ := cond_some e
        cases e
        refine ⟨?_, .nil⟩
        rw [H r (by simp), h3]
        simp only [hb, cond_true]
      · cases e
    · cases e
  case makeSlice t l c =>
    rw [hO l (by simp), hO c (by simp)]
    split at e
    · rename_i d _ _ _ _ _ _ _ _ h1 h2 h3 h4
      split at e
      · rename_i h5 h6
        obtain ⟨hb, e⟩ := cond_some e
        cases e
        refine ⟨?_, fun r hr => by simpa using hr⟩
        rw [H d (by simp), h6]
        rw [h5]; simp only [hb, cond_true]
      · cases e
    · cases e
  case slice t x lo hi mx =>
    cases mx with
    | some m => cases e
    | none =>
      have hlo : natOpt lo st2 = natOpt lo st := by
        cases lo with
        | none => rfl
        | some l => simp only [natOpt]; rw [hO l (by simp)]
      have hhi : natOpt hi st2 = natOpt hi st := by
        cases hi with
        | none => rfl
        | some l => simp only [natOpt]; rw [hO l (by simp)]
      simp only [] at e ⊢
      rw [hO x (by simp), hlo, hhi]
      split at e
      · obtain ⟨h4, h5⟩ := sliceAV_in e
        refine ⟨?_, h5⟩
        rw [sliceAV_congr (fun r hr => H r (h4 r hr))]; exact e
      · cases e
  case fieldAddr s x f =>
    rw [hO x (by simp)]
    split at e
    · obtain ⟨h4, h5⟩ := fieldAddr_in e
      refine ⟨?_, h5⟩
      rw [fieldAddr_congr (fun r hr => H r (h4 r hr))]; exact e
    · cases e
  case field s x f =>
    rw [hO x (by simp)]; refine ⟨e, ?_⟩
    split at e
    · exact nil (fieldAV_nil e)
    · cases e
  case indexAddr t x i =>
    rw [hO x (by simp), hO i (by simp)]
    split at e
    · obtain ⟨h4, h5⟩ := indexAddr_in e
      refine ⟨?_, h5⟩
      rw [indexAddr_congr (fun r hr => H r (h4 r hr))]; exact e
    · cases e
  case index t x i =>
    rw [hO x (by simp), hO i (by simp)]; refine ⟨e, ?_⟩
    split at e
    · exact nil (indexAV_nil e)
    · cases e
  case extract x i =>
    rw [hO x (by simp)]; refine ⟨e, ?_⟩
    split at e
    · split at e <;> cases e; exact .nil
    · cases e
  case call c =>
    obtain ⟨callee, args, tys⟩ := c
    cases callee with
    | value => cases e
    | invoke => cases e
    | builtin b =>
      simp only [Call.operands] at hO
      simp only [] at e ⊢
      rw [opds_congr (l := args.toList) (fun x hx => hO x (by simp; simpa using hx))]
      split at e
      · split at e
        · obtain ⟨h4, h5⟩ := lenAV_hw e
          exact ⟨h5 _ H, nil h4⟩
        · cases e
      · split at e
        · obtain ⟨hb, e⟩ := cond_some e
          simp only [hb, cond_true]
          exact appendAV_dep e H
        · cases e
      · refine ⟨e, ?_⟩
        unfold minMax at e
        split at e
        · cases e; exact .nil
        · obtain ⟨_, e⟩ := cond_some e; cases e; exact .nil
        · obtain ⟨_, e⟩ := cond_some e; cases e; exact .nil
        · cases e
      · refine ⟨e, ?_⟩
        unfold minMax at e
        split at e
        · cases e; exact .nil
        · obtain ⟨_, e⟩ := cond_some e; cases e; exact .nil
        · obtain ⟨_, e⟩ := cond_some e; cases e; exact .nil
        · cases e
      · cases e
end Go.Abs
