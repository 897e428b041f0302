/- An abstract interpreter of the code, and its soundness. -/
import Derived.Test.YtkkamfhppokooaaRAbs1R
import Derived.Lib.ConvBytes
import Derived.Laws.BytesString
import Derived.Laws.CopyRow
import Derived.Laws.IdiomCopy
import Derived.Maps.AppendAt
import Derived.MapKept
import Derived.Conc.EntryLaws
import Derived.Conc.MuLone
set_option linter.unusedVariables false
set_option linter.unusedSimpArgs false
namespace Go.Abs
universe u
abbrev HeapT := Nat -> Option Reg
def Same (h h' : HeapT) (rs : List Nat) : Prop := ∀ r, r ∈ rs -> h' r = h r
def WIn (δ : Delta) : Prop := ∀ r, r ∈ δ.hw.map (·.1) -> r ∈ δ.hr
def RIn (rs : List Nat) (δ : Delta) : Prop := ∀ r, r ∈ rs -> r ∈ δ.hr
theorem WIn.nil {av : AV} {hr : List Nat} : WIn ⟨av, [], hr⟩ := fun r hr => by simp at hr
theorem cond_some {α : Type u} {b : Bool} {x : Option α} {y : α} (h : (bif b then x else none) = some y) : b = true ∧ x = some y := by
 cases b
 ·cases h
 ·exact ⟨rfl, h⟩
theorem loadAt_congr {ti : TI} {h h' : HeapT} {x : CV} (H : Same h h' (regOf (.c x))) : loadAt ti h' x = loadAt ti h x := by
 cases x <;> simp only [loadAt]
 rw [H _ (by simp [regOf])]
theorem loadAt_in {ti : TI} {h : HeapT} {x : CV} {δ : Delta} (e : loadAt ti h x = some δ) : RIn (regOf (.c x)) δ ∧ WIn δ := by
 unfold loadAt at e
 split at e
 ·rename_i r base o room
  cases hb : Nat.ble ti.size room <;> simp only [hb, cond_true, cond_false] at e
  ·cases e
  split at e
  ·split at e
   ·split at e
    ·cases e; exact ⟨fun q h => h, .nil⟩
    ·cases e
   ·cases e
  ·cases hg : isAggT ti.d <;> rw [hg] at e <;> cases e <;> exact ⟨fun q h => h, .nil⟩
  ·cases e
 ·rename_i cs o room
  cases hb : Nat.ble ti.size room <;> simp only [hb, cond_true, cond_false] at e
  ·cases e
  split at e
  ·cases e; exact ⟨fun q h => h, .nil⟩
  ·cases e
 ·cases e
theorem storeAt_congr {ti : TI} {h h' : HeapT} {v : AV} {x : CV} (H : Same h h' (regOf (.c x))) : storeAt ti h' v x = storeAt ti h v x := by
 cases x <;> simp only [storeAt]
 rw [H _ (by simp [regOf])]
theorem storeAt_in {ti : TI} {h : HeapT} {v : AV} {x : CV} {δ : Delta} (e : storeAt ti h v x = some δ) : RIn (regOf (.c x)) δ ∧ WIn δ := by
 unfold storeAt at e
 split at e
 ·rename_i r base o room
  cases hb : (Nat.ble ti.size room && Nat.beq (valSize v) ti.size) <;> simp only [hb, cond_true, cond_false] at e
  ·cases e
  split at e
  ·split at e
   ·split at e
    ·cases e; exact ⟨fun q h => h, fun q h => by simpa using h⟩
    ·cases e
   ·cases e
  ·split at e
   ·obtain ⟨_, e⟩ := cond_some e; cases e
    exact ⟨fun q h => h, fun q h => by simpa using h⟩
   ·cases e
  ·cases e
 ·cases e
theorem cellsB_congr {h h' : HeapT} {r : Nat} (H : h' r = h r) : cellsB h' r = cellsB h r := by unfold cellsB; rw [H]
theorem liveB_congr {h h' : HeapT} {r : Nat} (H : h' r = h r) : liveB h' r = liveB h r := by unfold liveB; rw [H]
theorem eqAV_congr {T : Tab} {h h' : HeapT} {t : Nat} {a b : AV} (H : Same h h' (regOf a)) : eqAV T h' t a b = eqAV T h t a b := by
 unfold eqAV
 split
 case h_3 => rw [H _ (by simp [regOf])]
 all_goals rfl
theorem intOp_nil {op : BinOp} {k : IntKind} {x y : Int} {yc : Option Int} {rq : Option Req} {δ : Delta} (e : intOp op k x y yc = some (rq, δ)) : δ.hw = [] := by
 cases op <;> simp only [intOp] at e <;> try (cases e; rfl)
 all_goals (cases yc <;> (try simp only [] at e) <;> first | (cases e; rfl) | (cases e; done) | skip)
 all_goals (rename_i c; cases hc : (c == 0) <;> rw [hc] at e <;> cases e; rfl)
theorem shiftOp_nil {op : BinOp} {k : IntKind} {x y : Int} {yc : Option Int} {rq : Option Req} {δ : Delta} (e : shiftOp op k x y yc = some (rq, δ)) : δ.hw = [] := by
 cases op <;> simp only [shiftOp] at e <;> try (cases e; done)
 all_goals (cases yc <;> simp only [val1] at e <;> first | (cases e; rfl) | skip)
 all_goals (rename_i c; cases hc : decide (c < 0) <;> rw [hc] at e <;> cases e; rfl)
theorem binAV_congr {T : Tab} {h h' : HeapT} {t : Nat} {op : BinOp} {a b : AV} {yc : Option Int} (H : Same h h' (regOf a)) : binAV T h' t op a b yc = binAV T h t op a b yc := by
 unfold binAV
 split <;> try rfl
 all_goals (rw [eqAV_congr H])
theorem binAV_in {T : Tab} {h : HeapT} {t : Nat} {op : BinOp} {a b : AV} {yc : Option Int} {rq : Option Req} {δ : Delta} (e : binAV T h t op a b yc = some (rq, δ)) : RIn (regOf a) δ ∧ δ.hw = [] := by
 unfold binAV at e
 split at e
 ·exact ⟨fun q h => by simp [regOf] at h, shiftOp_nil e⟩
 ·exact ⟨fun q h => by simp [regOf] at h, shiftOp_nil e⟩
 ·obtain ⟨_, e⟩ := cond_some e
  ·exact ⟨fun q h => by simp [regOf] at h, intOp_nil e⟩
 ·split at e <;> cases e
  exact ⟨fun q h => h, rfl⟩
 ·split at e <;> cases e
  exact ⟨fun q h => h, rfl⟩
 ·cases e
theorem unAV_nil {op : UnOp} {a : AV} {rq : Option Req} {δ : Delta} (e : unAV op a = some (rq, δ)) : δ.hw = [] := by
 unfold unAV at e
 split at e <;> cases e <;> rfl
theorem fieldAddr_congr {T : Tab} {h h' : HeapT} {s f : Nat} {x : AV} (H : Same h h' (regOf x)) : fieldAddrAV T h' s f x = fieldAddrAV T h s f x := by
 unfold fieldAddrAV
 split
 ·rw [cellsB_congr (H _ (by simp [regOf]))]
 all_goals rfl
theorem fieldAddr_in {T : Tab} {h : HeapT} {s f : Nat} {x : AV} {rq : Option Req} {δ : Delta} (e : fieldAddrAV T h s f x = some (rq, δ)) : RIn (regOf x) δ ∧ WIn δ := by
 unfold fieldAddrAV at e
 split at e
 ·split at e
  ·split at e
   ·split at e
    ·obtain ⟨_, e⟩ := cond_some e; cases e
     exact ⟨fun q h => h, .nil⟩
    ·cases e
   ·cases e
  ·cases e
 ·split at e
  ·split at e
   ·split at e
    ·obtain ⟨_, e⟩ := cond_some e; cases e
     exact ⟨fun q h => h, .nil⟩
    ·cases e
   ·cases e
  ·cases e
 ·cases e
theorem fieldAV_nil {T : Tab} {s f : Nat} {x : AV} {rq : Option Req} {δ : Delta} (e : fieldAV T s f x = some (rq, δ)) : δ.hw = [] := by
 unfold fieldAV at e
 split at e
 ·split at e
  ·split at e
   ·split at e
    ·split at e <;> cases e; rfl
    ·cases e
   ·cases e
  ·cases e
 ·cases e
theorem indexAddr_congr {T : Tab} {h h' : HeapT} {t : Nat} {i : Int} {x : AV} (H : Same h h' (regOf x)) : indexAddrAV T h' t x i = indexAddrAV T h t x i := by
 unfold indexAddrAV
 split
 ·split
  ·rw [liveB_congr (H _ (by simp [regOf]))]
  all_goals rfl
 ·split
  ·rw [H _ (by simp [regOf])]
  ·rw [H _ (by simp [regOf])]
  ·rw [cellsB_congr (H _ (by simp [regOf]))]
  all_goals rfl
 ·rfl
theorem indexAddr_in {T : Tab} {h : HeapT} {t : Nat} {i : Int} {x : AV} {rq : Option Req} {δ : Delta} (e : indexAddrAV T h t x i = some (rq, δ)) : RIn (regOf x) δ ∧ WIn δ := by
 unfold indexAddrAV at e
 split at e
 ·split at e
  ·obtain ⟨_, e⟩ := cond_some e; cases e
   exact ⟨fun q h => h, .nil⟩
  ·obtain ⟨_, e⟩ := cond_some e; cases e
   exact ⟨fun q h => h, .nil⟩
  ·cases e
 ·split at e
  ·split at e
   ·obtain ⟨_, e⟩ := cond_some e; cases e
    exact ⟨fun q h => h, .nil⟩
   ·cases e
  ·split at e
   ·obtain ⟨_, e⟩ := cond_some e; cases e
    exact ⟨fun q h => h, .nil⟩
   ·cases e
  ·obtain ⟨_, e⟩ := cond_some e; cases e
   exact ⟨fun q h => h, .nil⟩
  ·obtain ⟨_, e⟩ := cond_some e; cases e
   exact ⟨fun q h => h, .nil⟩
  ·cases e
 ·cases e
theorem indexAV_nil {T : Tab} {t : Nat} {i : Int} {x : AV} {rq : Option Req} {δ : Delta} (e : indexAV T t x i = some (rq, δ)) : δ.hw = [] := by
 unfold indexAV at e
 split at e
 ·split at e
  ·rename_i te _
   cases hb : isAggT te.d <;> rw [hb] at e
   ·obtain ⟨_, e⟩ := cond_some e; cases e; rfl
   ·obtain ⟨_, e⟩ := cond_some e; cases e; rfl
  ·cases e
 ·cases e; rfl
 ·cases e
theorem lenAV_hw {T : Tab} {h : HeapT} {t : Nat} {x : AV} {rq : Option Req} {δ : Delta} (e : lenAV T h t x = some (rq, δ)) : δ.hw = [] ∧ (∀ h' : HeapT, Same h h' δ.hr -> lenAV T h' t x = some (rq, δ)) := by
 unfold lenAV at e ⊢
 split at e
 ·split at e
  ·rename_i r
   split at e
   ·rename_i xs hx
    cases e
    refine ⟨rfl, fun h' H => ?_⟩
    show (match h' r with | some (.row _ _ xs) => _ | _ => none) = _
    rw [H r (by simp), hx]
   ·cases e
  ·rename_i r _ _
   split at e
   ·rename_i xs hx
    cases e
    refine ⟨rfl, fun h' H => ?_⟩
    show (match h' r with | some (.row _ _ _) => _ | _ => none) = _
    rw [H r (by simp), hx]
   ·cases e
  ·obtain ⟨hc, e⟩ := cond_some e
   cases e
   refine ⟨rfl, fun h' H => ?_⟩
   show (bif cellsB h' _ then _ else none) = _
   rw [cellsB_congr (H _ (by simp)), hc]
   rfl
  ·cases e; exact ⟨rfl, fun _ _ => rfl⟩
  ·cases e; exact ⟨rfl, fun _ _ => rfl⟩
  ·cases e
 ·split at e
  ·cases e; exact ⟨rfl, fun _ _ => rfl⟩
  ·cases e
 ·cases e; exact ⟨rfl, fun _ _ => rfl⟩
 ·cases e
theorem sliceAV_congr {T : Tab} {h h' : HeapT} {t : Nat} {x : AV} {lo hi : Option (Int × Option Int)} (H : Same h h' (regOf x)) : sliceAV T h' t x lo hi = sliceAV T h t x lo hi := by
 unfold sliceAV
 split
 ·split
  ·rw [cellsB_congr (H _ (by simp [regOf]))]
  ·rfl
 ·split
  ·rw [H _ (by simp [regOf])]
  ·rw [H _ (by simp [regOf])]
  all_goals rfl
 ·rfl
theorem sliceAV_in {T : Tab} {h : HeapT} {t : Nat} {x : AV} {lo hi : Option (Int × Option Int)} {rq : Option Req} {δ : Delta} (e : sliceAV T h t x lo hi = some (rq, δ)) : RIn (regOf x) δ ∧ WIn δ := by
 unfold sliceAV at e
 split at e
 ·split at e
  ·obtain ⟨_, e⟩ := cond_some e
   split at e <;> cases e <;> exact ⟨fun q h => h, .nil⟩
  ·cases e
 ·split at e
  ·split at e
   ·split at e
    ·obtain ⟨_, e⟩ := cond_some e
     split at e <;> cases e <;> exact ⟨fun q h => h, .nil⟩
    ·cases e
   ·cases e
  ·split at e
   ·split at e
    ·obtain ⟨_, e⟩ := cond_some e
     split at e <;> cases e <;> exact ⟨fun q h => h, .nil⟩
    ·cases e
   ·cases e
  ·split at e
   ·obtain ⟨_, e⟩ := cond_some e
    split at e <;> cases e <;> exact ⟨fun q h => h, .nil⟩
   ·cases e
  ·cases e
 ·cases e
theorem sliceInts_congr {h h' : HeapT} {x : AV} (H : Same h h' (regOf x)) : sliceInts h' x = sliceInts h x := by
 unfold sliceInts
 split
 ·rw [H _ (by simp [regOf])]
 ·rw [H _ (by simp [regOf])]
 ·rw [H _ (by simp [regOf])]
 all_goals rfl
theorem sliceInts_in {h : HeapT} {x : AV} {k : IntKind} {ys : List Int} {rs : List Nat} (e : sliceInts h x = some (k, ys, rs)) : rs = regOf x := by
 unfold sliceInts at e
 split at e
 ·split at e <;> cases e; rfl
 ·split at e <;> cases e; rfl
 ·split at e
  ·split at e
   ·obtain ⟨_, e⟩ := cond_some e; cases e; rfl
   ·cases e
  ·cases e
 ·cases e; rfl
 ·cases e
theorem appendAV_dep {T : Tab} {h h' : HeapT} {dst : Option Nat} {t : Nat} {s x : AV} {rq : Option Req} {δ : Delta} (e : appendAV T h dst t s x = some (rq, δ)) (H : Same h h' δ.hr) : appendAV T h' dst t s x = some (rq, δ) ∧ WIn δ := by
 unfold appendAV at e ⊢
 split at e
 ·rename_i d el _ _ _ h1
  simp only [h1]
  cases h2 : T.get el with
  | none => rw [h2] at e; cases e
  | some te =>
   obtain ⟨td, sz, by', z⟩ := te
   rw [h2] at e
   simp only [] at e
   cases h3 : h d with
   | some g => rw [h3] at e; cases td <;> cases e
   | none =>
    rw [h3] at e
    cases td <;> try (cases e; done)
    rename_i k
    simp only [] at e
    split at e
    ·rename_i k2 ys rs hys
     cases hk : k2 == k <;> simp only [hk, cond_true, cond_false] at e
     ·cases e
     have hrs : ∀ r, r ∈ regOf x -> isNilSlice x = false -> r ∈ rs := by
      intro r hr hn
      rw [hn] at hys
      simp only [cond_false] at hys
      rw [sliceInts_in hys]; exact hr
     have hx : Same h h' rs -> (bif isNilSlice x then some (k, ([] : List Int), ([] : List Nat)) else sliceInts h' x) = some (k2, ys, rs) := by
      intro hs
      cases hn : isNilSlice x with
      | true => rw [hn] at hys; exact hys
      | false =>
       rw [hn] at hys
       simp only [cond_false] at hys ⊢
       rw [sliceInts_congr (fun r hr => hs r (hrs r hr hn))]; exact hys
     split at e
     ·rename_i r
      cases h4 : h r with
      | none => rw [h4] at e; cases e
      | some g =>
       rw [h4] at e
       cases g <;> try (cases e; done)
       rename_i e' k1 xs
       simp only [] at e
       cases hb : (Nat.beq el e' && k1 == k) <;> simp only [hb, cond_true, cond_false] at e
       ·cases e
       cases e
       refine ⟨?_, fun q hq => ?_⟩
       ·rw [H d (by simp), h3]
        simp only [h2]
        rw [hx (fun q hq => H q (by simp [hq]))]
        simp only [hk, cond_true]
        rw [H r (by simp), h4]
        simp only [hb, cond_true]
       ·simp at hq ⊢; rcases hq with h | h <;> simp [h]
     ·cases e
      refine ⟨?_, fun q hq => ?_⟩
      ·rw [H d (by simp), h3]
       simp only [h2]
       rw [hx (fun q hq => H q (by simp [hq]))]
       simp only [hk, cond_true]
      ·simp at hq ⊢; simp [hq]
     ·cases e
    ·cases e
 ·cases e
theorem opds_congr {st st2 : St} : ∀ {l : List Operand}, (∀ x ∈ l, opd st2 x = opd st x) -> opds st2 l = opds st l := by
 intro l
 induction l with
 | nil => exact fun _ => rfl
 | cons x l ih =>
  intro h
  simp only [opds]
  rw [h x (by simp), ih (fun y hy => h y (by simp [hy]))]
theorem partsAV_congr {st st2 : St} : ∀ {l : List (Nat × Operand)}, (∀ x ∈ l.map (·.2), opd st2 x = opd st x) -> partsAV st2 l = partsAV st l := by
 intro l
 induction l with
 | nil => exact fun _ => rfl
 | cons p l ih =>
  obtain ⟨i, x⟩ := p
  intro h
  simp only [partsAV]
  rw [h x (by simp), ih (fun y hy => h y (by simp only [List.map_cons, List.mem_cons]; exact .inr hy))]
theorem newReg_dep {st st2 : St} {dst : Option Nat} {segs : List CV} {rq : Option Req} {δ : Delta} (e : newReg st dst segs = some (rq, δ)) (H : Same st.heap st2.heap δ.hr) : newReg st2 dst segs = some (rq, δ) ∧ WIn δ := by
 unfold newReg at e ⊢
 cases dst with
 | none => cases e
 | some d =>
  simp only [] at e ⊢
  cases hd : st.heap d with
  | some g => rw [hd] at e; cases e
  | none =>
   rw [hd] at e
   cases e
   refine ⟨?_, fun r hr => by simpa using hr⟩
   rw [H d (by simp), hd]
theorem aop_dep {T : Tab} {o : Oper} {st st2 : St} {rq : Option Req} {δ : Delta} (e : aop T o st = some (rq, δ)) (hO : ∀ x ∈ o.op.operands, opd st2 x = opd st x) (H : Same st.heap st2.heap δ.hr) :
  aop T o st2 = some (rq, δ) ∧ WIn δ := by
 have nil : δ.hw = [] -> WIn δ := fun h r hr => by simp [h] at hr
 cases hop : o.op <;> rw [hop] at hO <;> simp only [Op.operands] at hO <;> simp only [aop, hop] at e ⊢ <;> try (cases e; done)
 case move x =>
  rw [hO x (by simp)]; refine ⟨e, ?_⟩
  split at e <;> cases e; exact .nil
 case assign x =>
  rw [hO x (by simp)]
  cases hn : isNilConst x with
  | true =>
   rw [hn] at e
   simp only [cond_true] at e ⊢
   unfold nilRow at e ⊢
   split at e
   ·rename_i d el _ _ _ h1 h2
    split at e
    ·rename_i h3 h4
     cases e
     refine ⟨?_, fun r hr => by simpa using hr⟩
     rw [H d (by simp), h4]
     simp only [h3]
    ·rename_i hno
     cases e
     refine ⟨?_, .nil⟩
     rw [H d (by simp)]
     split
     ·rename_i h5 h6
      exact absurd h6 (fun h6 => hno _ _ _ _ h5 h6)
     ·rfl
   ·cases e
    exact ⟨rfl, .nil⟩
   ·cases e
  | false =>
   rw [hn] at e
   simp only [cond_false] at e ⊢
   refine ⟨e, ?_⟩
   split at e <;> cases e; exact .nil
 case pick c a b =>
  rw [hO c (by simp), hO a (by simp), hO b (by simp)]; refine ⟨e, ?_⟩
  split at e
  ·split at e <;> cases e; exact .nil
  ·split at e <;> cases e; exact .nil
  ·cases e
 case alloc el =>
  split at e
  ·exact newReg_dep e H
  ·cases e
 case box el x =>
  rw [hO x (by simp)]
  split at e
  ·split at e
   ·exact newReg_dep e H
   ·cases e
  ·cases e
 case build t ps =>
  rw [partsAV_congr (by simpa using hO)]; refine ⟨e, ?_⟩
  split at e
  ·split at e <;> cases e; exact .nil
  ·split at e <;> cases e; exact .nil
  ·obtain ⟨_, e⟩ := cond_some e
   split at e <;> cases e; exact .nil
  ·cases e
 case buildSlice t n ps =>
  rw [partsAV_congr (by simpa using hO)]
  split at e
  ·rename_i d el _ _ _ l h1 h2 h3
   split at e
   ·rename_i k _ _ k0 z0 h4 h5
    split at e
    ·rename_i xs h6
     obtain ⟨hb, e⟩ := cond_some e
     cases e
     refine ⟨?_, fun r hr => by simpa using hr⟩
     rw [H d (by simp), h5]
     rw [h4]; simp only [h6, hb, cond_true]
    ·cases e
   ·rename_i h4 h5
    split at e
    ·rename_i segs h6
     obtain ⟨hb, e⟩ := cond_some e
     cases e
     refine ⟨?_, fun r hr => by simpa using hr⟩
     rw [H d (by simp), h5]
     rw [h4]; simp only [h6, hb, cond_true]
    ·cases e
   ·cases e
  ·cases e
 case load t x =>
  rw [hO x (by simp)]
  split at e
  ·split at e
   ·rename_i h3
    cases e
    obtain ⟨h4, h5⟩ := loadAt_in h3
    refine ⟨?_, h5⟩
    rw [loadAt_congr (fun r hr => H r (h4 r hr)), h3]
   ·cases e
  ·cases e
 case store t x y =>
  rw [hO x (by simp), hO y (by simp)]
  split at e
  ·split at e
   ·rename_i h3
    cases e
    obtain ⟨h4, h5⟩ := storeAt_in h3
    refine ⟨?_, h5⟩
    rw [storeAt_congr (fun r hr => H r (h4 r hr)), h3]
   ·cases e
  ·cases e
 case nilCheck x =>
  rw [hO x (by simp)]
  split at e
  ·rename_i r _ _ _ h1
   obtain ⟨hb, e⟩ := cond_some e
   cases e
   refine ⟨?_, .nil⟩
   rw [liveB_congr (H r (by simp)), hb]
   rfl
  ·cases e; exact ⟨rfl, .nil⟩
  ·cases e
 case binOp op t x y so =>
  rw [hO x (by simp), hO y (by simp)]
  split at e
  ·obtain ⟨h4, h5⟩ := binAV_in e
   refine ⟨?_, nil h5⟩
   rw [binAV_congr (fun r hr => H r (h4 r hr))]; exact e
  ·cases e
 case unOp op t x =>
  rw [hO x (by simp)]; refine ⟨e, ?_⟩
  split at e
  ·exact nil (unAV_nil e)
  ·cases e
 case convert s d x =>
  rw [hO x (by simp)]; refine ⟨e, ?_⟩
  split at e <;> cases e; exact .nil
 case sliceToArrayPointer d x =>
  rw [hO x (by simp)]
  split at e
  ·rename_i r h1 h2
   split at e
   ·rename_i h3
    obtain ⟨hb, e⟩ := cond_some e
    cases e
    refine ⟨?_, .nil⟩
    rw [H r (by simp), h3]
    simp only [hb, cond_true]
   ·cases e
  ·rename_i r _ _ _ _ h1 h2
   obtain ⟨hb, e⟩ := cond_some e
   cases e
   refine ⟨?_, .nil⟩
   rw [cellsB_congr (H r (by simp)), hb]
   rfl
  ·rename_i r _ _ h1 h2
   split at e
   ·rename_i h3
    obtain ⟨hb, e⟩ := cond_some e
    cases e
    refine ⟨?_, .nil⟩
    rw [H r (by simp), h3]
    simp only [hb, cond_true]
   ·cases e
  ·cases e
 case makeSlice t l c =>
  rw [hO l (by simp), hO c (by simp)]
  split at e
  ·rename_i d _ _ _ _ _ _ _ _ h1 h2 h3 h4
   split at e
   ·rename_i h5 h6
    obtain ⟨hb, e⟩ := cond_some e
    cases e
    refine ⟨?_, fun r hr => by simpa using hr⟩
    rw [H d (by simp), h6]
    rw [h5]; simp only [hb, cond_true]
   ·cases e
  ·cases e
 case slice t x lo hi mx =>
  cases mx with
  | some m => cases e
  | none =>
   have hlo : natOpt lo st2 = natOpt lo st := by
    cases lo with
    | none => rfl
    | some l => simp only [natOpt]; rw [hO l (by simp)]
   have hhi : natOpt hi st2 = natOpt hi st := by
    cases hi with
    | none => rfl
    | some l => simp only [natOpt]; rw [hO l (by simp)]
   simp only [] at e ⊢
   rw [hO x (by simp), hlo, hhi]
   split at e
   ·obtain ⟨h4, h5⟩ := sliceAV_in e
    refine ⟨?_, h5⟩
    rw [sliceAV_congr (fun r hr => H r (h4 r hr))]; exact e
   ·cases e
 case fieldAddr s x f =>
  rw [hO x (by simp)]
  split at e
  ·obtain ⟨h4, h5⟩ := fieldAddr_in e
   refine ⟨?_, h5⟩
   rw [fieldAddr_congr (fun r hr => H r (h4 r hr))]; exact e
  ·cases e
 case field s x f =>
  rw [hO x (by simp)]; refine ⟨e, ?_⟩
  split at e
  ·exact nil (fieldAV_nil e)
  ·cases e
 case indexAddr t x i =>
  rw [hO x (by simp), hO i (by simp)]
  split at e
  ·obtain ⟨h4, h5⟩ := indexAddr_in e
   refine ⟨?_, h5⟩
   rw [indexAddr_congr (fun r hr => H r (h4 r hr))]; exact e
  ·cases e
 case index t x i =>
  rw [hO x (by simp), hO i (by simp)]; refine ⟨e, ?_⟩
  split at e
  ·exact nil (indexAV_nil e)
  ·cases e
 case extract x i =>
  rw [hO x (by simp)]; refine ⟨e, ?_⟩
  split at e
  ·split at e <;> cases e; exact .nil
  ·cases e
 case call c =>
  obtain ⟨callee, args, tys⟩ := c
  cases callee with
  | value => cases e
  | invoke => cases e
  | builtin b =>
   simp only [Call.operands] at hO
   simp only [] at e ⊢
   rw [opds_congr (l := args.toList) (fun x hx => hO x (by simp; simpa using hx))]
   split at e
   ·split at e
    ·obtain ⟨h4, h5⟩ := lenAV_hw e
     exact ⟨h5 _ H, nil h4⟩
    ·cases e
   ·split at e
    ·obtain ⟨hb, e⟩ := cond_some e
     simp only [hb, cond_true]
     exact appendAV_dep e H
    ·cases e
   ·refine ⟨e, ?_⟩
    unfold minMax at e
    split at e
    ·cases e; exact .nil
    ·obtain ⟨_, e⟩ := cond_some e; cases e; exact .nil
    ·obtain ⟨_, e⟩ := cond_some e; cases e; exact .nil
    ·cases e
   ·refine ⟨e, ?_⟩
    unfold minMax at e
    split at e
    ·cases e; exact .nil
    ·obtain ⟨_, e⟩ := cond_some e; cases e; exact .nil
    ·obtain ⟨_, e⟩ := cond_some e; cases e; exact .nil
    ·cases e
   ·cases e
end Go.Abs
namespace Go.Abs
universe u
open Go.RowKit
theorem asDT_spec {d d' : DT} {xs : List d'.T} {ys : List d.T} (h : asDT d d' xs = some ys) : ∃ e : d' = d, e ▸ xs = ys := by
 unfold asDT at h
 split at h
 ·rename_i e; exact ⟨e, by simpa using h⟩
 ·cases h
theorem isNilS_spec {v : Value} (h : isNilS v = true) : v = .slice none 0 0 := by
 unfold isNilS at h
 split at h
 ·simp only [Bool.and_eq_true, nbeq] at h
  obtain ⟨rfl, rfl⟩ := h
  rfl
 ·cases h
theorem add_blk (A : Addr) (n : Nat) : (A.add n).block = A.block := by unfold Addr.add; split <;> rfl
section
variable (w : World) (own : Nat -> Prop)
def FzL : List CV -> List Value -> Prop
 | [], l => l = []
 | .ints k n f :: cs, l => ∃ r, l = fnV k n f ++ r ∧ FzL cs r
 | c :: cs, l => ∃ v r, l = v :: r ∧ FzV w own c v ∧ FzL cs r
end
section
variable {w : World} {own own' : Nat -> Prop} {h : Heap} {β : Nat -> Value}
theorem FzL.cons {c : CV} {cs : List CV} {v : Value} {l : List Value} (hv : FzV w own c v) (hl : FzL w own cs l) : FzL w own (c :: cs) (v :: l) := by
 cases hv <;> exact ⟨_, _, rfl, by constructor <;> assumption, hl⟩
theorem FzL.append : ∀ {cs cs' : List CV} {l l' : List Value}, FzL w own cs l -> FzL w own cs' l' -> FzL w own (cs ++ cs') (l ++ l') := by
 intro cs
 induction cs with
 | nil => intro cs' l l' h1 h2; simp only [FzL] at h1; subst h1; exact h2
 | cons c cs ih =>
  intro cs' l l' h1 h2
  cases c <;> simp only [FzL, List.cons_append] at h1 ⊢
  case ints k n f => obtain ⟨r, rfl, h1⟩ := h1; exact ⟨r ++ l', by simp, ih h1 h2⟩
  all_goals (obtain ⟨v, r, rfl, hv, h1⟩ := h1; exact ⟨v, r ++ l', rfl, hv, ih h1 h2⟩)
theorem FzL.segs : ∀ {cs : List CV} {l : List Value}, FzL w (Own h β) cs l -> SegsRel h β w cs l := by
 intro cs
 induction cs with
 | nil => exact fun H => H
 | cons c cs ih =>
  intro l H
  cases c <;> simp only [FzL] at H <;> simp only [SegsRel]
  case ints k n f => obtain ⟨r, rfl, H⟩ := H; exact ⟨r, rfl, ih H⟩
  case junk n => obtain ⟨v, r, rfl, hv, H⟩ := H; cases hv
  all_goals
   obtain ⟨v, r, rfl, hv, H⟩ := H
   obtain ⟨h1, h2, _, _⟩ := fzV_one hv
   exact ⟨v, r, rfl, h1, h2, ih H⟩
theorem FzL.at : ∀ {cs : List CV} {l : List Value} {A : Addr}, FzL w own cs l -> (∀ j v, l[j]? = some v -> ucell w (A.add j) = some v) -> ¬ own A.block -> FzAt w own cs A := by
 intro cs
 induction cs with
 | nil => intro l A _ _ _; exact .nil A
 | cons c cs ih =>
  intro l A H hw ho
  cases c <;> simp only [FzL] at H
  case ints k n f =>
   obtain ⟨r, rfl, H⟩ := H
   refine .ints k n f cs A (fun i hi => hw i _ ?_) (fun _ => ho) (ih H (fun j v hv => ?_) (by rw [add_blk]; exact ho))
   ·rw [List.getElem?_append_left (by simpa using hi), fnV_get _ _ _ _ hi]
   ·rw [add_add]
    refine hw _ _ ?_
    rw [List.getElem?_append_right (by simp)]
    simpa using hv
  all_goals
   obtain ⟨v, r, rfl, hv, H⟩ := H
   refine .one _ cs A v (by have := hw 0 v rfl; rwa [add_zero'] at this) ho hv (ih H (fun j u hu => ?_) (by rw [add_blk]; exact ho))
   rw [add_add, Nat.add_comm]
   exact hw (j + 1) u (by simpa using hu)
def dataC : CV -> Bool
 | .int _ _ => true
 | .bool _ => true
 | .str _ => true
 | .ints _ _ _ => true
 | .fz _ _ _ => true
 | .fzp _ none _ => true
 | _ => false
theorem encD_data : ∀ (t : DT) (x : t.T), ∀ c ∈ encD t x, dataC c = true := by
 intro t
 induction t with
 | pair a b iha ihb =>
  intro x c hc
  simp only [encD, List.mem_append] at hc
  rcases hc with h | h
  ·exact iha _ c h
  ·exact ihb _ c h
 | unit => intro x c hc; simp [encD] at hc
 | item =>
  intro x c hc
  simp only [encD, List.mem_cons, List.not_mem_nil, or_false] at hc
  rcases hc with rfl | rfl | rfl <;> rfl
 | _ => intro x c hc; simp only [encD, List.mem_singleton] at hc; subst hc; rfl
theorem CVRel.fz {c : CV} {v : Value} (hd : dataC c = true) (hi : ∀ k n f, c ≠ .ints k n f) (H : CVRel h β w c v) (ho : ∀ b, own b -> Own h β b) : FzV w own c v := by
 have M : ∀ (x : Addr) v, ¬ Own h β x.block -> ucell w x = some v -> ucell w x = some v ∧ ¬ own x.block := fun x v hx hv => ⟨hv, fun h => hx (ho _ h)⟩
 cases c <;> simp only [dataC] at hd <;> try (cases hd; done)
 case int => simp only [CVRel] at H; subst H; exact .int _ _
 case bool => simp only [CVRel] at H; subst H; exact .bool _
 case str => simp only [CVRel] at H; subst H; exact .str _
 case ints k n f => exact absurd rfl (hi k n f)
 case fz t xs n => simp only [CVRel] at H; exact H.mono M
 case fzp cs o room =>
  cases o with
  | some p => cases hd
  | none =>
   simp only [CVRel] at H
   obtain ⟨A, rfl, hf, hs, _⟩ := H
   simp only [offOf, Nat.zero_add, add_zero'] at hs ⊢
   exact .pt cs room A (hf.mono M) hs
theorem SegsRel.fzl (ho : ∀ b, own b -> Own h β b) : ∀ {cs : List CV} {l : List Value}, (∀ c ∈ cs, dataC c = true) -> SegsRel h β w cs l -> FzL w own cs l := by
 intro cs
 induction cs with
 | nil => exact fun _ H => H
 | cons c cs ih =>
  intro l hd H
  have h1 := hd c (by simp)
  have h2 : ∀ c ∈ cs, dataC c = true := fun c hc => hd c (by simp [hc])
  cases c <;> simp only [SegsRel] at H <;> first | (cases h1; done) | skip
  case ints k n f => obtain ⟨r, rfl, H⟩ := H; exact ⟨r, rfl, ih h2 H⟩
  all_goals
   obtain ⟨v, r, rfl, _, hv, H⟩ := H
   exact FzL.cons (hv.fz h1 (by simp) ho) (ih h2 H)
theorem SegsRel.split : ∀ {cs cs' : List CV} {l : List Value}, SegsRel h β w (cs ++ cs') l -> ∃ l1 l2, l = l1 ++ l2 ∧ SegsRel h β w cs l1 ∧ SegsRel h β w cs' l2 := by
 intro cs
 induction cs with
 | nil => intro cs' l H; exact ⟨[], l, rfl, rfl, H⟩
 | cons c cs ih =>
  intro cs' l H
  cases c <;> simp only [List.cons_append, SegsRel] at H ⊢
  case ints k n f => obtain ⟨r, rfl, H⟩ := H; obtain ⟨l1, l2, rfl, h1, h2⟩ := ih H; exact ⟨_, l2, by rw [List.append_assoc], ⟨l1, rfl, h1⟩, h2⟩
  case junk n => obtain ⟨a, r, rfl, ha, h3, H⟩ := H; obtain ⟨l1, l2, rfl, h1, h2⟩ := ih H; exact ⟨_, l2, by rw [List.append_assoc], ⟨a, l1, rfl, ha, h3, h1⟩, h2⟩
  all_goals (obtain ⟨v, r, rfl, h3, hv, H⟩ := H; obtain ⟨l1, l2, rfl, h1, h2⟩ := ih H; exact ⟨v :: l1, l2, rfl, ⟨v, l1, rfl, h3, hv, h1⟩, h2⟩)
theorem SegsRel.chunk {t : DT} : ∀ {xs : List t.T} {l : List Value}, SegsRel h β w (xs.flatMap (encD t)) l -> ∀ i (hi : i < xs.length), ∃ l1 lm l2, l = l1 ++ (lm ++ l2) ∧ l1.length = i * t.size ∧ SegsRel h β w (encD t xs[i]) lm := by
 intro xs
 induction xs with
 | nil => intro l _ i hi; exact absurd hi (Nat.not_lt_zero _)
 | cons x xs ih =>
  intro l H i hi
  rw [List.flatMap_cons] at H
  obtain ⟨l1, l2, rfl, h1, h2⟩ := H.split
  cases i with
  | zero => exact ⟨[], l1, l2, rfl, by simp, h1⟩
  | succ i =>
   obtain ⟨m1, mm, m2, rfl, h3, h4⟩ := ih h2 i (by simpa using hi)
   refine ⟨l1 ++ m1, mm, m2, by simp, ?_, h4⟩
   have := h1.length
   rw [encD_size] at this
   simp only [List.length_append, h3, this, Nat.add_mul, Nat.one_mul]
   omega
end
theorem rowAs_spec {t : DT} {k : IntKind} {xs : List Int} {ys : List t.T} (h : rowAs t k xs = some ys) : ∃ e : t = .int k, (e ▸ ys : List (DT.int k).T) = xs := by
 unfold rowAs at h
 split at h
 ·obtain ⟨h1, h2⟩ := cond_some h
  obtain rfl := beqK.1 h1
  cases h2
  exact ⟨rfl, rfl⟩
 ·cases h
section
variable {P : Program} {w0 : World} {fp : FP} {nt : Nat} {β : Nat -> Value} {st : St} {a : Act} {w : World} {own : Nat -> Prop}
theorem fz_of_ints {A : Option Addr} {cap : Nat} {k : IntKind} {xs : List Int} (hA : A = none -> xs = [] ∧ cap = 0) (hcap : xs.length ≤ cap)
  (hc : ∀ a, A = some a -> ∀ j (hj : j < xs.length), ucell w (a.add j) = some (.int k xs[j])) (ho : ∀ a, A = some a -> 0 < xs.length -> ¬ own a.block) : FzV w own (.fz (.int k) xs none) (.slice A xs.length cap) := by
 refine .fz (.int k) xs none A cap (Nat.le_refl _) hcap hA ?_
 intro a' ha i hi
 have hsz : i * (DT.int k).size = i := Nat.mul_one i
 rw [hsz]
 exact .one _ [] _ _ (hc a' ha i hi) (by rw [add_blk]; exact ho a' ha (Nat.lt_of_le_of_lt (Nat.zero_le _) hi)) (.int k _) (.nil _)
theorem sl_fz (R : Rel P w0 fp nt β st a w) {r o n e : Nat} {k : IntKind} {ys : List Int} {v : Value} (hg : st.heap r = some (.row e k ys)) (hp : SlOk (β r) o n v (.row e k ys)) (H : ∀ b, own b -> ¬ Blk (β r) b)
  {xs : List Int} (hx : xs = (ys.drop o).take n) : FzV w own (.fz (.int k) xs none) v := by
 obtain ⟨hlen, A, cap, A', hbv, rfl, hA⟩ := hp
 have hln : xs.length = n := by rw [hx, List.length_take, List.length_drop]; omega
 have key : FzV w own (.fz (.int k) xs none) (.slice A' xs.length (cap - o)) := by
  rcases R.heap r _ hg with ⟨hn, he⟩ | ⟨b, cap', tail, hbv', hh, hcp, hm⟩
  ·rw [hbv] at hn
   injection hn with hn1 hn2 hn3
   subst hn1
   subst hn3
   have hnil : xs = [] := by rw [hx, he]; simp
   exact fz_of_ints (fun _ => ⟨hnil, by omega⟩) (by rw [hnil]; simp) (fun a _ j hj => by rw [hnil] at hj; exact absurd hj (Nat.not_lt_zero _)) (fun a h h0 => by rw [hnil] at h0; exact absurd h0 (Nat.not_lt_zero _))
  ·rw [hbv'] at hbv
   cases hbv
   refine fz_of_ints (fun h => ?_) (by rw [hln]; omega) (fun a ha j hj => ?_) (fun a ha h0 ho => ?_)
   ·rcases Nat.lt_or_ge o cap with h' | h'
    ·rw [hA h'] at h; cases h
    ·refine ⟨List.eq_nil_of_length_eq_zero (by rw [hln]; omega), by omega⟩
   ·rw [hln] at hj
    rw [hA (by omega)] at ha
    simp only [Option.map_some, Option.some.injEq] at ha
    subst ha
    rw [add_add]
    refine uwin_block hh (o + j) _ ?_
    simp only []
    rw [List.getElem?_append_left (by simp; omega)]
    subst hx
    simp only [intsV, List.getElem?_map, List.getElem_take, List.getElem_drop]
    rw [List.getElem?_eq_getElem (by omega)]
    rfl
   ·rw [hA (by omega)] at ha
    simp only [Option.map_some, Option.some.injEq] at ha
    subst ha
    rw [add_blk] at ho
    exact H _ ho (by rw [hbv']; rfl)
 rw [hln] at key
 exact key
theorem sl_fzn (R : Rel P w0 fp nt β st a w) {r n e : Nat} {k : IntKind} {ys : List Int} {v : Value} (hg : st.heap r = some (.row e k ys)) (hp : SlOk (β r) 0 n v (.row e k ys)) (H : ∀ b, own b -> ¬ Blk (β r) b)
  {xs : List Int} (hx : xs = ys) : FzV w own (.fz (.int k) xs (some n)) v := by
 subst hx
 obtain ⟨hlen, A, cap, A', hbv, rfl, hA⟩ := hp
 have one : ∀ a', A' = some a' -> ∀ i (hi : i < xs.length), FzAt w own (encD (.int k) (xs[i] : Int)) (a'.add (i * (DT.int k).size)) ∧ xs.length ≤ cap - 0 := by
  intro a' ha i hi
  rcases R.heap r _ hg with ⟨hn, he⟩ | ⟨b, cap', tail, hbv', hh, hcp, hm⟩
  ·rw [he] at hi; exact absurd hi (Nat.not_lt_zero _)
  ·rw [hbv'] at hbv
   cases hbv
   have := hA (by omega)
   rw [this] at ha
   simp only [Option.map_some, Option.some.injEq] at ha
   subst ha
   have hsz : i * (DT.int k).size = i := Nat.mul_one i
   rw [hsz, add_add, Nat.zero_add]
   refine ⟨.one _ [] _ _ (uwin_block hh i _ ?_) (fun ho => H _ (by rw [add_blk] at ho; exact ho) (by rw [hbv']; rfl)) (.int k _) (.nil _), by omega⟩
   simp only []
   rw [List.getElem?_append_left (by simpa using hi)]
   simp only [intsV, List.getElem?_map]
   rw [List.getElem?_eq_getElem hi]
   rfl
 rcases R.heap r _ hg with ⟨hn, he⟩ | ⟨b, cap', tail, hbv', hh, hcp, hm⟩
 ·rw [hbv] at hn
  injection hn with h1 h2 h3
  subst h3
  subst he
  refine .fz (.int k) [] (some n) A' (0 - 0) (by have h : 0 + n ≤ 0 := hlen; show n ≤ 0; omega) (Nat.le_refl _) (fun _ => ⟨rfl, rfl⟩) (fun a' ha i hi => absurd hi (Nat.not_lt_zero _))
 ·have hbv2 := hbv
  rw [hbv'] at hbv2
  injection hbv2 with q1 q2 q3
  subst q3
  refine .fz (.int k) xs (some n) A' (cap' - 0) (by show n ≤ xs.length; omega) (by show List.length (α := Int) xs ≤ _; omega) (fun h => ?_) (fun a' ha i hi => (one a' ha i hi).1)
  rcases Nat.lt_or_ge 0 cap' with h' | h'
  ·rw [hA h', <- q1] at h; cases h
  ·exact ⟨List.eq_nil_of_length_eq_zero (by show List.length (α := Int) xs = 0; omega), by omega⟩
theorem row_fz (R : Rel P w0 fp nt β st a w) {r e : Nat} {k : IntKind} {xs : List Int} (hg : st.heap r = some (.row e k xs)) (H : ∀ b, own b -> ¬ Blk (β r) b) : FzV w own (.fz (.int k) xs none) (β r) := by
 rcases R.heap r _ hg with ⟨hn, he⟩ | ⟨b, cap, tail, hbv, hh, hcp, hm⟩
 ·rw [hn]
  subst he
  exact fz_of_ints (own := own) (k := k) (xs := []) (fun _ => ⟨rfl, rfl⟩) (Nat.le_refl _) (fun a h => by cases h) (fun a h _ => by cases h)
 ·rw [hbv]
  refine fz_of_ints (own := own) (k := k) (xs := xs) (fun h => by cases h) (by omega) (fun a ha j hj => ?_) (fun a ha _ ho => ?_)
  ·cases ha
   refine uwin_block hh j _ ?_
   simp only []
   rw [List.getElem?_append_left (by simpa using hj)]
   simp only [intsV, List.getElem?_map]
   rw [List.getElem?_eq_getElem hj]
   rfl
  ·cases ha
   exact H _ ho (by rw [hbv]; rfl)
theorem asl_fz (R : Rel P w0 fp nt β st a w) {r base lo n lim m : Nat} {segs rest : List CV} {k : IntKind} {f : Nat -> Int} {v : Value} (hg : st.heap r = some (.cells segs)) (hd : dropSegs segs base = some (.ints k m f :: rest)) (hlm : Nat.ble lim m = true)
  (hc : CVRel st.heap β w (.asl r base lo n lim) v) (hp : AslOk (β r) base lo n lim v (.cells segs)) (H : ∀ b, own b -> ¬ Blk (β r) b)
  {xs : List Int} (hx : xs = (List.range n).map fun j => f (lo + j)) : FzV w own (.fz (.int k) xs none) v := by
 have hs : sliceInts st.heap (.c (.asl r base lo n lim)) = some (k, xs, [r]) := by
  simp only [sliceInts, hg, hd, hlm, cond_true, hx]
 obtain ⟨A, c, h1, h2, h3⟩ := sliceInts_rel R (x := .c (.asl r base lo n lim)) (by simpa only [AVRel] using hc) hs
 obtain ⟨b, hbv, hl1, hl2, hv⟩ := hp
 rw [h1] at hv
 have hlen : xs.length = n := by rw [hx]; simp
 injection hv with q1 q2 q3
 rw [h1]
 refine fz_of_ints (own := own) (k := k) (xs := xs) (A := A) (cap := c) (fun h => by rw [q1] at h; cases h) (by omega) (fun a ha j hj => ucell_mk (h3 a ha j _ ?_) ?_) (fun a ha h0 ho => ?_)
 rotate_left
 ·obtain ⟨b', T', cs', hb', hh', _⟩ := R.heap r _ hg
  rw [hbv] at hb'
  cases hb'
  rw [q1] at ha
  cases ha
  refine free_block (T := T') (cs := cs') ?_
  rw [add_blk]
  split <;> exact hh'
 rotate_left
 ·simp only [intsV, List.getElem?_map]
  rw [List.getElem?_eq_getElem hj]
  rfl
 ·rw [q1] at ha
  cases ha
  refine H b ?_ (by rw [hbv]; rfl)
  split at ho <;> exact ho
theorem FzL.split : ∀ {cs cs' : List CV} {l : List Value}, FzL w own (cs ++ cs') l -> ∃ l1 l2, l = l1 ++ l2 ∧ FzL w own cs l1 ∧ FzL w own cs' l2 := by
 intro cs
 induction cs with
 | nil => intro cs' l H; exact ⟨[], l, rfl, rfl, H⟩
 | cons c cs ih =>
  intro cs' l H
  cases c <;> simp only [List.cons_append, FzL] at H ⊢
  case ints k n f => obtain ⟨r, rfl, H⟩ := H; obtain ⟨l1, l2, rfl, h1, h2⟩ := ih H; exact ⟨_, l2, by rw [List.append_assoc], ⟨l1, rfl, h1⟩, h2⟩
  all_goals (obtain ⟨v, r, rfl, hv, H⟩ := H; obtain ⟨l1, l2, rfl, h1, h2⟩ := ih H; exact ⟨v :: l1, l2, rfl, ⟨v, l1, rfl, hv, h1⟩, h2⟩)
theorem FzL.length : ∀ {cs : List CV} {l : List Value}, FzL w own cs l -> l.length = segSize cs := by
 intro cs
 induction cs with
 | nil => intro l H; simp only [FzL] at H; subst H; rfl
 | cons c cs ih =>
  intro l H
  cases c <;> simp only [FzL] at H
  case ints k n f => obtain ⟨r, rfl, H⟩ := H; simp only [List.length_append, fnV_length, ih H, segSize, CV.size]
  case junk n => obtain ⟨v, r, rfl, hv, H⟩ := H; cases hv
  all_goals (obtain ⟨v, r, rfl, hv, H⟩ := H; simp only [List.length_cons, ih H, segSize, CV.size]; omega)
theorem FzL.chunk {t : DT} : ∀ {xs : List t.T} {l : List Value}, FzL w own (xs.flatMap (encD t)) l -> ∀ i (hi : i < xs.length), ∃ l1 lm l2, l = l1 ++ (lm ++ l2) ∧ l1.length = i * t.size ∧ FzL w own (encD t xs[i]) lm := by
 intro xs
 induction xs with
 | nil => intro l _ i hi; exact absurd hi (Nat.not_lt_zero _)
 | cons x xs ih =>
  intro l H i hi
  rw [List.flatMap_cons] at H
  obtain ⟨l1, l2, rfl, h1, h2⟩ := H.split
  cases i with
  | zero => exact ⟨[], l1, l2, rfl, by simp, h1⟩
  | succ i =>
   obtain ⟨m1, mm, m2, rfl, h3, h4⟩ := ih h2 i (by simpa using hi)
   refine ⟨l1 ++ m1, mm, m2, by simp, ?_, h4⟩
   have := h1.length
   rw [encD_size] at this
   simp only [List.length_append, h3, this, Nat.add_mul, Nat.one_mul]
   omega
theorem fz_of_block {t : DT} {xs : List t.T} {b e cap : Nat} {l tail : List Value} (hh : w.heap[b]? = some (.cells (l ++ tail).toArray e (0, 0))) (hl : FzL w own (xs.flatMap (encD t)) l) (hc : xs.length ≤ cap) (ho : ¬ own b) :
  FzV w own (.fz t xs none) (.slice (some ⟨b, 0, none⟩) xs.length cap) := by
 refine .fz t xs none _ cap (Nat.le_refl _) hc (fun h => by cases h) ?_
 intro A hA i hi
 cases hA
 obtain ⟨l1, lm, l2, rfl, h1, h2⟩ := hl.chunk i hi
 refine h2.at (fun j v hv => ?_) (by rw [add_blk]; exact ho)
 rw [add_add]
 refine uwin_block hh _ v ?_
 simp only []
 have hj : j < lm.length := (List.getElem?_eq_some_iff.1 hv).1
 rw [List.append_assoc, List.append_assoc, List.getElem?_append_right (by rw [h1]; omega), h1, Nat.add_sub_cancel_left, List.getElem?_append_left hj]
 exact hv
theorem BodyAt.fz {eb : Nat} {S : List Nat} {body : List Int} {v : Value} (H : BodyAt w eb S body v) (ho : ∀ b ∈ S, ¬ own b) : FzV w own (.fz (.int .u8) body none) v := by
 rcases H with ⟨rfl, rfl, _⟩ | ⟨b, cap, tail, rfl, hh, hl, hm, rfl⟩
 ·exact fz_of_ints (own := own) (k := .u8) (xs := []) (fun _ => ⟨rfl, rfl⟩) (Nat.le_refl _) (fun a h => by cases h) (fun a h _ => by cases h)
 ·refine fz_of_ints (own := own) (k := .u8) (xs := body) (fun h => by cases h) (by omega) (fun a ha j hj => ?_) (fun a ha _ h => ?_)
  ·cases ha
   refine uwin_block hh j _ ?_
   simp only []
   rw [List.getElem?_append_left (by simpa using hj)]
   simp only [intsV, List.getElem?_map]
   rw [List.getElem?_eq_getElem hj]
   rfl
  ·cases ha
   exact ho b (by simp) h
theorem DeepAt.fzl {e eb : Nat} {S : List Nat} {xs : List Tree} {l : List Value} (H : DeepAt w e eb S xs l) : (∀ b ∈ S, ¬ own b) -> FzL w own (xs.flatMap (encD .item)) l := by
 induction H with
 | nil => intro _; rfl
 | leaf tag body bv Sb S xs l hb hr ih =>
  intro ho
  show FzL w own (CV.int .u8 tag :: CV.fz (.int .u8) body none :: CV.fz .item [] none :: List.flatMap (encD .item) xs) _
  exact .cons (.int _ _) (.cons (hb.fz fun b hb => ho b (by simp [hb])) (.cons (.fz .item [] none none 0 (Nat.le_refl _) (Nat.le_refl _) (fun _ => ⟨rfl, rfl⟩) (fun a h => by cases h)) (ih fun b hb => ho b (by simp [hb]))))
 | node tag body kids bv b cap l' tail Sb Sk S xs l hb hw hl hc hm hk hr ihk ihr =>
  intro ho
  show FzL w own (CV.int .u8 tag :: CV.fz (.int .u8) body none :: CV.fz .item kids none :: List.flatMap (encD .item) xs) _
  exact .cons (.int _ _) (.cons (hb.fz fun b hb => ho b (by simp [hb])) (.cons (fz_of_block (t := .item) hw (ihk fun b hb => ho b (by simp [hb])) hc (ho b (by simp))) (ihr fun b hb => ho b (by simp [hb]))))
theorem frzSl_rel (R : Rel P w0 fp nt β st a w) {t : DT} {c : CV} {xs : List t.T} {gs : List Nat} {v : Value} (e : frzSl st.heap t c = some (xs, gs)) (hc : CVRel st.heap β w c v)
  (H : ∀ b, own b -> Own st.heap β b ∧ ∀ r ∈ gs, ∀ g, st.heap r = some g -> g.live -> ¬ Blk (β r) b) : FzV w own (.fz t xs none) v := by
 have M : ∀ (x : Addr) v, ¬ Own st.heap β x.block -> ucell w x = some v -> ucell w x = some v ∧ ¬ own x.block := fun x v hx hv => ⟨hv, fun h => hx (H _ h).1⟩
 unfold frzSl at e
 split at e
 ·rename_i d xs0 n
  split at e
  ·rename_i ys hys
   obtain ⟨e0, hys⟩ := asDT_spec hys
   subst e0
   subst hys
   simp only [CVRel] at hc
   have hc := hc.mono M
   cases n with
   | none => cases e; exact hc
   | some m =>
    cases e
    cases hc with
    | fz _ _ _ A cap hn hcap h0 hat =>
     have hl : List.length (α := d.T) (List.take m xs0) = m := by rw [List.length_take]; exact Nat.min_eq_left hn
     have key := FzV.fz (w := w) (own := own) d (xs0.take m) none A cap (Nat.le_refl _) (by rw [hl]; exact Nat.le_trans hn hcap) (fun h => ⟨by rw [(h0 h).1]; simp, (h0 h).2⟩) (fun a ha i hi => by
      have h1 := hat a ha i (by rw [hl] at hi; exact Nat.lt_of_lt_of_le hi hn)
      rw [List.getElem_take]; exact h1)
     have e2 : lenOfFz (xs0.take m) none = m := hl
     rw [e2] at key
     exact key
  ·cases e
 ·rename_i v'
  obtain ⟨h1, h2⟩ := cond_some e
  cases h2
  obtain rfl := isNilS_spec h1
  simp only [CVRel] at hc
  subst hc
  exact .fz t [] none none 0 (Nat.le_refl _) (Nat.le_refl _) (fun _ => ⟨rfl, rfl⟩) (fun a h => by cases h)
 ·rename_i r
  simp only [CVRel] at hc
  obtain ⟨g, hg, hp⟩ := hc
  rw [hg] at e
  split at e
  ·rename_i e' k ys hr
   cases hr
   split at e
   ·rename_i zs hz
    cases e
    obtain ⟨e0, hz⟩ := rowAs_spec hz
    subst e0
    subst hz
    obtain ⟨rfl, _⟩ := hp
    exact row_fz R hg (fun b hb h => (H b hb).2 r (by simp) _ hg trivial h)
   ·cases e
  ·rename_i e' d ys hr
   cases hr
   split at e
   ·rename_i zs hz
    cases e
    obtain ⟨e0, hz⟩ := asDT_spec hz
    subst e0
    subst hz
    obtain ⟨rfl, _⟩ := hp
    rcases R.heap r _ hg with ⟨hn, he⟩ | ⟨b, cap, l, tail, hbv, hh, hs, hl, hxc, hm⟩
    ·rw [hn]
     subst he
     exact .fz d [] none none 0 (Nat.le_refl _) (Nat.le_refl _) (fun _ => ⟨rfl, rfl⟩) (fun a h => by cases h)
    ·rw [hbv]
     refine .fz d ys none _ cap (Nat.le_refl _) hxc (fun h => by cases h) ?_
     intro A hA i hi
     cases hA
     obtain ⟨l1, lm, l2, rfl, h1, h2⟩ := hs.chunk i hi
     have hno : ¬ own b := fun ho => (H _ ho).2 r (by simp) _ hg trivial (by rw [hbv]; rfl)
     refine (h2.fzl (fun b hb => (H b hb).1) (encD_data d _)).at (fun j v hv => ?_) (by rw [add_blk]; exact hno)
     rw [add_add]
     refine uwin_block hh _ v ?_
     simp only []
     have hj : j < lm.length := (List.getElem?_eq_some_iff.1 hv).1
     rw [List.append_assoc, List.append_assoc, List.getElem?_append_right (by rw [h1]; omega), h1, Nat.add_sub_cancel_left, List.getElem?_append_left hj]
     exact hv
   ·cases e
  ·rename_i e' eb ys hr
   cases hr
   split at e
   ·rename_i zs hz
    cases e
    obtain ⟨e0, hz⟩ := asDT_spec hz
    subst e0
    subst hz
    obtain ⟨rfl, _⟩ := hp
    rcases R.heap r _ hg with ⟨hn, he⟩ | ⟨b, cap, l, tail, S, S', hbv, hh, hs, hl, hxc, hm, _, _, hSS, _⟩
    ·rw [hn]
     subst he
     exact .fz .item [] none none 0 (Nat.le_refl _) (Nat.le_refl _) (fun _ => ⟨rfl, rfl⟩) (fun a h => by cases h)
    ·have hno : ∀ x, x = b ∨ x ∈ S -> ¬ own x := fun x hx ho => (H _ ho).2 r (by simp) _ hg trivial (by rw [hbv]; exact Blk_tuple.2 (hx.imp Eq.symm id))
     rw [hbv]
     exact fz_of_block (t := .item) hh (hs.fzl fun x hx => hno x (.inr (hSS x hx))) hxc (hno b (.inl rfl))
   ·cases e
  ·cases e
 ·rename_i r o n
  simp only [CVRel] at hc
  obtain ⟨g, hg, hp⟩ := hc
  rw [hg] at e
  split at e
  ·rename_i e' k ys hr
   cases hr
   split at e
   ·rename_i zs hz
    cases e
    obtain ⟨e0, hz⟩ := rowAs_spec hz
    subst e0
    have hz : xs = (ys.drop o).take n := hz
    subst hz
    exact sl_fz R hg hp (fun b hb h => (H b hb).2 r (by simp) _ hg trivial h) rfl
   ·cases e
  ·rename_i ds hr
   cases hr
   obtain ⟨_, e⟩ := cond_some e
   split at e
   ·rename_i x hx
    split at e
    ·rename_i zs hz
     cases e
     obtain ⟨e0, hz⟩ := asDT_spec hz
     subst e0
     subst hz
     obtain ⟨_, ho, hcap, _⟩ := hp
     obtain ⟨vs, S, hbv, hl, hd, _⟩ := R.heap r _ hg
     obtain ⟨u, h1, h2⟩ := hd o x hx
     rw [hbv, capAt_caps (by omega), h1] at hcap
     cases hcap
     refine h2.mono fun y v' hy hv' => ⟨hv', fun ho' => (H _ ho').2 r (by simp) _ hg trivial ?_⟩
     rw [hbv]
     exact Blk_caps.2 (Classical.not_not.1 hy)
    ·cases e
   ·cases e
  ·cases e
 ·rename_i r base lo n lim
  have hc0 := hc
  simp only [CVRel] at hc
  obtain ⟨g, hg, hp⟩ := hc
  rw [hg] at e
  split at e
  ·rename_i segs hr
   cases hr
   split at e
   ·rename_i k m f rest hd
    obtain ⟨hlm, e⟩ := cond_some e
    split at e
    ·rename_i zs hz
     cases e
     obtain ⟨e0, hz⟩ := rowAs_spec hz
     subst e0
     have hz : xs = (List.range n).map fun j => f (lo + j) := hz
     exact asl_fz R hg hd hlm hc0 hp (fun b hb h => (H b hb).2 r (by simp) _ hg trivial h) hz
    ·cases e
   ·cases e
  ·cases e
 ·cases e
end
section
variable {P : Program} {w0 : World} {fp : FP} {nt : Nat} {β : Nat -> Value} {st : St} {a : Act} {w : World} {own : Nat -> Prop}
def OwnLess (st : St) (β : Nat -> Value) (gs : List Nat) (own : Nat -> Prop) : Prop := ∀ b, own b -> Own st.heap β b ∧ ∀ r ∈ gs, ∀ g, st.heap r = some g -> g.live -> ¬ Blk (β r) b
theorem OwnLess.sub {gs gs' : List Nat} (H : OwnLess st β gs own) (h : ∀ r ∈ gs', r ∈ gs) : OwnLess st β gs' own := fun b hb => ⟨(H b hb).1, fun r hr => (H b hb).2 r (h r hr)⟩
theorem segs_one {c : CV} {cs : List CV} {l : List Value} (h1 : ∀ k n f, c ≠ .ints k n f) (h2 : ∀ n, c ≠ .junk n) (H : SegsRel st.heap β w (c :: cs) l) : ∃ v r, l = v :: r ∧ v.oneCell' = true ∧ CVRel st.heap β w c v ∧ SegsRel st.heap β w cs r := by
 cases c <;> simp only [SegsRel] at H
 case ints k n f => exact absurd rfl (h1 k n f)
 case junk n => exact absurd rfl (h2 n)
 all_goals exact H
theorem frzD_rel (R : Rel P w0 fp nt β st a w) : ∀ {t : DT} {cs rest : List CV} {x : t.T} {gs : List Nat} {l : List Value}, frzD st.heap t cs = some (x, rest, gs) -> SegsRel st.heap β w cs l -> OwnLess st β gs own ->
  ∃ l1 l2, l = l1 ++ l2 ∧ FzL w own (encD t x) l1 ∧ SegsRel st.heap β w rest l2 := by
 intro t
 induction t with
 | int k =>
  intro cs rest x gs l e hs H
  simp only [frzD] at e
  split at e
  ·obtain ⟨h1, h2⟩ := cond_some e
   obtain rfl := beqK.1 h1
   cases h2
   obtain ⟨v, r, rfl, _, hv, hr⟩ := segs_one (by simp) (by simp) hs
   simp only [CVRel] at hv
   subst hv
   exact ⟨[_], r, rfl, .cons (.int _ _) rfl, hr⟩
  ·cases e
 | bool =>
  intro cs rest x gs l e hs H
  simp only [frzD] at e
  split at e
  ·cases e
   obtain ⟨v, r, rfl, _, hv, hr⟩ := segs_one (by simp) (by simp) hs
   simp only [CVRel] at hv
   subst hv
   exact ⟨[_], r, rfl, .cons (.bool _) rfl, hr⟩
  ·cases e
 | str =>
  intro cs rest x gs l e hs H
  simp only [frzD] at e
  split at e
  ·cases e
   obtain ⟨v, r, rfl, _, hv, hr⟩ := segs_one (by simp) (by simp) hs
   simp only [CVRel] at hv
   subst hv
   exact ⟨[_], r, rfl, .cons (.str _) rfl, hr⟩
  ·cases e
 | arr k n =>
  intro cs rest x gs l e hs H
  simp only [frzD] at e
  split at e
  ·obtain ⟨h1, h2⟩ := cond_some e
   simp only [Bool.and_eq_true] at h1
   obtain rfl := beqK.1 h1.1
   obtain rfl := nbeq.1 h1.2
   cases h2
   simp only [SegsRel] at hs
   obtain ⟨r, rfl, hr⟩ := hs
   exact ⟨_, r, rfl, ⟨[], by simp [encD], rfl⟩, hr⟩
  ·cases e
 | sl t ih =>
  intro cs rest x gs l e hs H
  simp only [frzD] at e
  split at e
  ·rename_i c r0
   split at e
   ·rename_i ys gs' hf
    cases e
    have h1 : ∀ k n f, c ≠ .ints k n f := fun k n f h => by subst h; simp [frzSl] at hf
    have h2 : ∀ n, c ≠ .junk n := fun n h => by subst h; simp [frzSl] at hf
    obtain ⟨v, r, rfl, _, hv, hr⟩ := segs_one h1 h2 hs
    exact ⟨[v], r, rfl, .cons (frzSl_rel R hf hv H) rfl, hr⟩
   ·cases e
  ·cases e
 | item =>
  intro cs rest x gs l e hs H
  simp only [frzD] at e
  split at e
  ·rename_i x0 c c' r0
   split at e
   ·rename_i b gs1 k gs2 hf1 hf2
    cases e
    have h1 : ∀ k n f, c ≠ .ints k n f := fun k n f h => by subst h; simp [frzSl] at hf1
    have h2 : ∀ n, c ≠ .junk n := fun n h => by subst h; simp [frzSl] at hf1
    have h3 : ∀ k n f, c' ≠ .ints k n f := fun k n f h => by subst h; simp [frzSl] at hf2
    have h4 : ∀ n, c' ≠ .junk n := fun n h => by subst h; simp [frzSl] at hf2
    obtain ⟨v, r, rfl, _, hv, hr⟩ := segs_one (by simp) (by simp) hs
    obtain ⟨v', r', rfl, _, hv', hr'⟩ := segs_one h1 h2 hr
    obtain ⟨v'', r'', rfl, _, hv'', hr''⟩ := segs_one h3 h4 hr'
    simp only [CVRel] at hv
    subst hv
    exact ⟨[_, v', v''], r'', rfl, .cons (.int _ _) (.cons (frzSl_rel R hf1 hv' (H.sub (by simp; intro r hr; exact .inl hr))) (.cons (frzSl_rel R hf2 hv'' (H.sub (by simp; intro r hr; exact .inr hr))) rfl)), hr''⟩
   ·cases e
  ·cases e
 | pair t1 t2 ih1 ih2 =>
  intro cs rest x gs l e hs H
  simp only [frzD] at e
  split at e
  ·rename_i y r1 gs1 h1
   split at e
   ·rename_i z r2 gs2 h2
    cases e
    obtain ⟨l1, l2, rfl, g1, g2⟩ := ih1 h1 hs (H.sub (by simp; intro r hr; exact .inl hr))
    obtain ⟨m1, m2, rfl, g3, g4⟩ := ih2 h2 g2 (H.sub (by simp; intro r hr; exact .inr hr))
    exact ⟨l1 ++ m1, m2, by simp, g1.append g3, g4⟩
   ·cases e
  ·cases e
 | pt t ih => intro cs rest x gs l e; simp [frzD] at e
 | unit => intro cs rest x gs l e; simp [frzD] at e
end
end Go.Abs
namespace Go.Abs
universe u
open Go.RowKit
section
variable {P : Program} {w0 : World} {fp : FP} {nt : Nat} {β : Nat -> Value} {st : St} {a : Act} {w : World} {T : Tab} {o : Oper} {Q : Exit -> Act -> World -> Prop}
theorem capRegs_rel (R : Rel P w0 fp nt β st a w) : ∀ {xs : List Operand} {rs : List Nat}, capRegs st xs = some rs -> rs.length = xs.length ∧ ∀ (i r : Nat), rs[i]? = some r -> ∃ (u : Value) (g : Reg), (xs.map a.eval)[i]? = some u ∧ st.heap r = some g ∧ PtrOk (β r) 0 none 1 u g := by
 intro xs
 induction xs with
 | nil => intro rs e; cases e; exact ⟨rfl, fun i r h => by simp at h⟩
 | cons x xs ih =>
  intro rs e
  simp only [capRegs] at e
  split at e
  ·rename_i q base room l h1 h2
   obtain ⟨h3, h4⟩ := cond_some e
   cases h4
   simp only [Bool.and_eq_true] at h3
   obtain ⟨⟨h3, h5⟩, h6⟩ := h3
   obtain rfl := nbeq.1 h3
   have h5 := nble.1 h5
   obtain ⟨h7, h8⟩ := ih h2
   refine ⟨by simp [h7], fun i r hi => ?_⟩
   cases i with
   | succ i => simpa using h8 i r (by simpa using hi)
   | zero =>
    simp at hi
    subst hi
    have := opd_rel R h1
    simp only [AVRel, CVRel] at this
    obtain ⟨g, hg, hp⟩ := this
    obtain ⟨segs, hs⟩ := cellsB_rel h6
    rw [hs] at hg
    cases hg
    obtain ⟨b, hbv, hv, hsz, hlim⟩ := hp
    exact ⟨a.eval x, _, rfl, hs, b, hbv, hv, by omega, fun i lim h => by cases h⟩
  ·cases e
theorem ofBytes_fold : ∀ (ns : List Int) (s : ByteArray), ns.foldl (fun r n => r.push (UInt8.ofNat n.toNat)) s = ⟨s.data ++ (ns.map fun n => UInt8.ofNat n.toNat).toArray⟩ := by
 intro ns
 induction ns with
 | nil => intro s; simp
 | cons n ns ih => intro s; rw [List.foldl_cons, ih]; simp [ByteArray.push]
theorem bytesOf_rel (R : Rel P w0 fp nt β st a w) {x : AV} {u : Value} (hx : AVRel st.heap β w x u) {xs : List Int} {rs : List Nat} (e : bytesOf st.heap x = some (xs, rs)) :
  ∃ A c, u = .slice A xs.length c ∧ (A = none -> xs = []) ∧ ∀ A', A = some A' -> ∀ j v, (intsV .u8 xs)[j]? = some v -> w.cell? (A'.add j) = some v := by
 unfold bytesOf at e
 cases hn : isNilSlice x with
 | true =>
  rw [hn] at e
  cases e
  unfold isNilSlice at hn
  split at hn
  ·simp only [AVRel, CVRel] at hx
   subst hx
   exact ⟨none, _, rfl, fun _ => rfl, fun A' h => by cases h⟩
  ·cases hn
 | false =>
  rw [hn] at e
  simp only [cond_false] at e
  split at e
  ·rename_i ys rs' hs
   cases e
   exact sliceInts_rel R hx hs
  ·cases e
theorem isU8_spec (hT : TabOk P T) {e : Nat} (h : isU8 T e = true) : P.underlying e = some (.int .u8) := by
 unfold isU8 at h
 split at h
 ·rename_i h1; exact tdInt (hT _ _ h1)
 ·cases h
theorem Rel.giveUp (R : Rel P w0 fp nt β st a w) {r b : Nat} {g : Reg} (hg : st.heap r = some g) (hl : g.live) (hbv : Blk (β r) b) {w' : World} (hos : w'.os = w.os) (htape : w'.tape = w.tape) (hout : w'.output = w.output)
  (hsz : w'.heap.size = w.heap.size) (hoth : ∀ b', b' ≠ b -> w'.heap[b']? = w.heap[b']?) {dst : Option Nat} (hd : dstOk nt dst = true) {av : AV} {v : Value}
  (hval : ¬ Own (upd st.heap r (some .dead)) β b -> (∀ h', Mono st.heap β w h' β w' -> h' = upd st.heap r (some .dead) -> AVRel h' β w' av v)) :
  Rel P w0 fp nt β { env := putEnv st.env dst av, heap := upd st.heap r (some .dead) } (a.put dst v) w' := by
 have hob : OwnR st.heap β b := ⟨r, g, hg, hl, hbv⟩
 have hOwn : ∀ b', OwnR (upd st.heap r (some .dead)) β b' -> OwnR st.heap β b' ∧ b' ≠ b := by
  rintro b' ⟨r', g1, h1, h2, h3⟩
  by_cases e : r' = r
  ·subst e; rw [upd_same] at h1; cases h1; cases h2
  ·rw [upd_ne _ _ e] at h1
   refine ⟨⟨r', g1, h1, h2, h3⟩, fun e' => ?_⟩
   subst e'
   exact e (R.sep r' r g1 g b' h1 hg h2 hl h3 hbv)
 have hno : ¬ Own (upd st.heap r (some .dead)) β b := by
  rintro (h | h)
  ·exact (hOwn b h).2 rfl
  ·exact R.apart hob h
 refine R.update (w' := w') (h' := upd st.heap r (some .dead)) hd hos htape hout (by omega) (fun _ _ => rfl) (fun b' _ hn => hoth b' fun e => hn (e ▸ hob)) (fun b' h => .inl (hOwn b' h).1) ?_ ?_ ?_ ?_ (fun M => hval hno _ M rfl)
 ·intro r' g1 h1
  by_cases e : r' = r
  ·subst e; exact ⟨.dead, upd_same _ _ _, by cases g1 <;> trivial, fun h => h.elim⟩
  ·exact ⟨g1, by rw [upd_ne _ _ e]; exact h1, .refl g1, fun _ => rfl⟩
 ·intro q g1 _ h1
  by_cases e : q = r
  ·subst e; exact ⟨g, hg⟩
  ·rw [upd_ne _ _ e] at h1; exact ⟨g1, h1⟩
 ·intro M r' g1 h1
  by_cases e : r' = r
  ·subst e; rw [upd_same] at h1; cases h1; trivial
  ·rw [upd_ne _ _ e] at h1
   refine (R.heap r' g1 h1).mono M fun b' hb' hl1 => hoth b' fun e' => ?_
   subst e'
   exact e (R.sep r' r g1 g b' h1 hg hl1 hl hb' hbv)
 ·intro r1 r2 g1 g2 b' h1 h2 l1 l2 e1 e2
  by_cases d1 : r1 = r
  ·subst d1; rw [upd_same] at h1; cases h1; cases l1
  ·by_cases d2 : r2 = r
   ·subst d2; rw [upd_same] at h2; cases h2; cases l2
   ·rw [upd_ne _ _ d1] at h1
    rw [upd_ne _ _ d2] at h2
    exact R.sep r1 r2 g1 g2 b' h1 h2 l1 l2 e1 e2
theorem convert2_rel (hT : TabOk P T) (R : Rel P w0 fp nt β st a w) (hd : dstOk nt o.dst = true) {s d : Nat} {x : AV} {u : Value} (hx : AVRel st.heap β w x u) {rq : Option Req} {δ : Delta} (e : convert2 T st.heap s d x = some (rq, δ)) :
  ∃ v w', (convert s d u).run P w = .ok v w' ∧ ∃ β', Rel P w0 fp nt β' (st.app o.dst δ) (a.put o.dst v) w' := by
 unfold convert2 at e
 split at e
 ·rename_i _ _ _ el _ _ _ h1 h2
  obtain ⟨ds, hs, _⟩ := (hT _ _ h1).desc
  have hdt := tdSlice (hT _ _ h2)
  split at e
  ·rename_i b
   obtain ⟨h3, h4⟩ := cond_some e
   cases h4
   have hu8 := isU8_spec hT h3
   simp only [AVRel, CVRel] at hx
   subst hx
   refine ⟨_, _, Lib.run_convert_string_bytes w s d el b hs hdt hu8, β, ?_⟩
   have hold : ∀ j, j < w.heap.size -> (Lib.bytesWorld w el b).heap[j]? = w.heap[j]? := fun j hj => Lib.bytesWorld_at_old w el b j hj
   have hbsz := Lib.bytesWorld_size w el b
   have hgrow : b.size ≤ grownCap w b.size 0 el := grownCap_ge w b.size 0 el
   have hwf : ∀ b', b' < w.heap.size -> ¬ OwnR st.heap β b' -> (Lib.bytesWorld w el b).heap[b']? = w.heap[b']? := fun b' hb' _ => hold b' hb'
   refine R.update (w' := Lib.bytesWorld w el b) (h' := st.heap) hd ?_ ?_ ?_ (by omega) (fun _ _ => rfl) hwf (fun b' h => .inl h) (fun r g hr => ⟨g, hr, .refl g, fun _ => rfl⟩) (fun q g _ h => ⟨g, h⟩) (fun M r g hr => (R.heap r g hr).mono M fun b' hb' hl => hold b' (OwnR.lt R ⟨r, g, hr, hl, hb'⟩)) R.sep (fun M => ?_)
   ·simp [Lib.bytesWorld, World.freeze, World.alloc, World.drew, -World.alloc_eq, -World.drew_eq]
   ·simp [Lib.bytesWorld, World.freeze, World.alloc, World.drew, -World.alloc_eq, -World.drew_eq]
   ·simp [Lib.bytesWorld, World.freeze, World.alloc, World.drew, -World.alloc_eq, -World.drew_eq]
   ·have hno : ¬ Own st.heap β w.heap.size := fun h => by have := Own.lt R h; omega
    have hlen : (toBytes b).length = b.size := by simp [toBytes]
    simp only [AVRel, CVRel]
    have := fz_of_ints (w := Lib.bytesWorld w el b) (own := Own st.heap β) (A := some ⟨w.heap.size, 0, none⟩) (cap := grownCap w b.size 0 el) (k := .u8) (xs := toBytes b) (fun h => by cases h) (by omega) (fun A hA j hj => by
     cases hA
     rw [add_lit, Nat.zero_add]
     refine ucell_mk ((Lib.bytesWorld_cell w el b j (by omega)).trans ?_) ?_
     rotate_left
     ·have hj2 : j < (Lib.bytesCells w el b).size := by
       have := Lib.bytesWorld_cell w el b j (by omega)
       simp only [World.cell?, Lib.bytesWorld_at_new] at this
       exact (Array.getElem?_eq_some_iff.1 (by simpa using this)).1
      simp only [World.frozen?, Lib.bytesWorld_at_new, Bool.and_eq_false_iff, decide_eq_false_iff_not]
      left
      omega
     have hj' : j < b.data.size := by have : b.data.size = b.size := rfl; omega
     simp [toBytes, List.getD]
     rw [Array.getElem?_eq_getElem hj']
     rfl) (fun A hA _ => by cases hA; exact hno)
    rw [hlen] at this
    exact this
  ·cases e
 ·rename_i el _ _ _ _ _ _ h1 h2
  have hs := tdSlice (hT _ _ h1)
  obtain ⟨dd, hdt, hdr⟩ := (hT _ _ h2).desc
  have hdt : P.underlying d = some .string := by
   cases dd <;> simp only [TDRel] at hdr <;> first | exact hdt | (cases hdr; done) | exact hdr.elim
  obtain ⟨h3, e⟩ := cond_some e
  have hu8 := isU8_spec hT h3
  split at e
  ·rename_i xs rs h4
   cases e
   obtain ⟨A, c, rfl, hnil, hcells⟩ := bytesOf_rel R hx h4
   have hstr : ∀ u, (convert s d u).run P w = .ok (.string (ofBytes xs)) w -> ∃ v w', (convert s d u).run P w = .ok v w' ∧ ∃ β', Rel P w0 fp nt β' (st.app o.dst ⟨.c (.str (ofBytes xs)), [], rs⟩) (a.put o.dst v) w' := fun u h => ⟨_, _, h, β, R.pure hd (by simp only [AVRel, CVRel])⟩
   refine hstr _ ?_
   rw [run_convert_bytes_string w s d el A xs.length c hs hu8 hdt]
   cases A with
   | none =>
    have := hnil rfl
    subst this
    simp [Conv.bytesToString, ofBytes]
    try rfl
   | some A =>
    have hl := run_loadCells_list (P := P) w A (intsV .u8 xs) (fun j v hv => hcells A rfl j v hv)
    rw [intsV_length] at hl
    rw [run_bytesToString w A xs.length c xs hl, ofBytes_fold]
    simp [ofBytes]
    try rfl
  ·cases e
 ·rename_i el _ _ _ el' _ _ _ h1 h2
  have h30 := cond_some e
  replace e := h30.2
  have h3 := h30.1
  clear h30
  simp only [Bool.and_eq_true] at h3
  obtain rfl := nbeq.1 h3.1.1
  have hs := tdSlice (hT _ _ h1)
  have hu8 := isU8_spec hT h3.1.2
  split at e
  ·rename_i r
   split at e
   ·rename_i e' y ys hr
    cases e
    simp only [AVRel, CVRel] at hx
    obtain ⟨g, hg, hp⟩ := hx
    rw [hr] at hg
    cases hg
    obtain ⟨rfl, _⟩ := hp
    rcases R.heap r _ hr with ⟨_, he⟩ | ⟨b, cap, tail, hbv, hh, hcp, hm⟩
    ·cases he
    ·refine ⟨β r, w.freeze ⟨b, (intsV .u8 (y :: ys) ++ tail).length, none⟩ 1, ?_, β, ?_⟩
     ·rw [hbv]
      simp [convert, run_underlying hs, run_underlying hu8, markStringish, World.shape?, hh]
     ·have hfz : ∀ b', b' ≠ b -> (w.freeze ⟨b, (intsV .u8 (y :: ys) ++ tail).length, none⟩ 1).heap[b']? = w.heap[b']? := by
       intro b' hb'
       simp [World.freeze, Array.getElem?_modify, Ne.symm hb']
      have hcell : ∀ j v, (intsV .u8 (y :: ys))[j]? = some v -> (w.freeze ⟨b, (intsV .u8 (y :: ys) ++ tail).length, none⟩ 1).cell? ⟨b, j, none⟩ = some v := by
       intro j v hv
       have hlt := (Array.getElem?_eq_some_iff.1 hh).1
       have hj : j < (intsV .u8 (y :: ys)).length := (List.getElem?_eq_some_iff.1 hv).1
       simp only [World.cell?, World.freeze, if_neg (show ¬ (1 : Nat) = 0 by omega)]
       rw [Array.getElem?_modify, if_pos rfl, hh]
       simp only [Option.map_some]
       rw [show ((intsV .u8 (y :: ys) ++ tail).toArray)[j]? = (intsV .u8 (y :: ys) ++ tail)[j]? by simp, List.getElem?_append_left hj]
       exact hv
      refine R.giveUp hr trivial (by rw [hbv]; rfl) (by simp [World.freeze]) (by simp [World.freeze]) (by simp [World.freeze]) (by simp [World.freeze]) hfz hd (fun hno h' M he => ?_)
      subst he
      simp only [AVRel, CVRel]
      rw [hbv]
      exact fz_of_ints (xs := y :: ys) (fun h => by cases h) (by omega) (fun A hA j hj => by
       cases hA
       rw [add_lit, Nat.zero_add]
       refine ucell_mk (hcell j _ ?_) ?_
       rotate_left
       ·have hj' : j < (intsV .u8 (y :: ys)).length := by simpa using hj
        simp only [World.frozen?, World.freeze, if_neg (show ¬ (1 : Nat) = 0 by omega)]
        rw [Array.getElem?_modify, if_pos rfl, hh]
        simp only [Option.map_some, beq_self_eq_true, if_true, List.length_append, Bool.and_eq_false_iff, decide_eq_false_iff_not]
        left
        omega
       simp only [intsV, List.getElem?_map]
       rw [List.getElem?_eq_getElem hj]
       rfl) (fun A hA _ => by cases hA; exact hno)
   ·cases e
  ·cases e
 ·cases e
end
end Go.Abs
namespace Go.Abs
universe u
open Go.RowKit
section
variable {P : Program} {w0 : World} {fp : FP} {nt : Nat} {β : Nat -> Value} {st : St} {a : Act} {w : World} {T : Tab} {o : Oper} {Q : Exit -> Act -> World -> Prop}
theorem seqDat_rel (R : Rel P w0 fp nt β st a w) {d : DT} {own : Nat -> Prop} : ∀ {l : List (Nat × AV)} {vs : List Value} {i : Nat} {xs : List d.T} {gs : List Nat}, seqDat st.heap d i l = some (xs, gs) -> AVsRel st.heap β w (l.map (·.2)) vs -> OwnLess st β gs own ->
  l.map (·.1) = List.range' i l.length ∧ xs.length = l.length ∧ FzL w own (xs.flatMap (encD d)) (vs.flatMap fun v => v.cells.toList) ∧ ∀ v ∈ vs, v.cells.size = d.size := by
 intro l
 induction l with
 | nil => intro vs i xs gs e hv H; cases e; simp only [List.map_nil, AVsRel] at hv; subst hv; exact ⟨rfl, rfl, rfl, by simp⟩
 | cons p l ih =>
  obtain ⟨j, av⟩ := p
  intro vs i xs gs e hv H
  simp only [List.map_cons, AVsRel] at hv
  obtain ⟨v, r, rfl, hx, hr⟩ := hv
  simp only [seqDat] at e
  obtain ⟨h1, e2⟩ := cond_some e
  clear e
  obtain rfl := nbeq.1 h1
  split at e2
  ·rename_i cs hcs
   split at e2
   ·rename_i x gs1 hf
    split at e2
    ·rename_i xs' gs2 hs
     cases e2
     obtain ⟨h2, h3, h4, h5⟩ := ih hs hr (H.sub (by simp; intro r hr; exact .inr hr))
     have hc := cellAV_rel hx hcs
     obtain ⟨l1, l2, hl, h6, h7⟩ := frzD_rel R hf hc (H.sub (by simp; intro r hr; exact .inl hr))
     simp only [SegsRel] at h7
     subst h7
     rw [List.append_nil] at hl
     refine ⟨by simp [h2, List.range'_succ], by simp [h3], ?_, ?_⟩
     ·rw [List.flatMap_cons, List.flatMap_cons]
      exact (hl ▸ h6).append h4
     ·intro u hu
      rcases List.mem_cons.1 hu with rfl | hu
      ·have h8 : l1.length = segSize (encD d x) := by
        have : ∀ {cs : List CV} {l : List Value}, FzL w own cs l -> l.length = segSize cs := by
         intro cs
         induction cs with
         | nil => intro l H; simp only [FzL] at H; subst H; rfl
         | cons c cs ih =>
          intro l H
          cases c <;> simp only [FzL] at H
          case ints k n f => obtain ⟨r, rfl, H⟩ := H; simp [segSize, CV.size, ih H]
          case junk n => obtain ⟨v, r, rfl, hv, H⟩ := H; cases hv
          all_goals (obtain ⟨v, r, rfl, hv, H⟩ := H; simp [segSize, CV.size, ih H]; omega)
        exact this h6
       rw [encD_size] at h8
       rw [<- Array.length_toList, hl, h8]
      ·exact h5 u hu
    ·cases e2
   ·cases e2
  ·cases e2
theorem fill_dat {sz : Nat} : ∀ (vs : List Value) (i : Nat) (cells : List Value), (∀ v ∈ vs, v.cells.size = sz) -> (i + vs.length) * sz ≤ cells.length ->
  Instr.fill (fun i => some (i * sz, sz)) cells.toArray ((List.range' i vs.length).zip vs) = some (cells.take (i * sz) ++ (vs.flatMap fun v => v.cells.toList) ++ cells.drop ((i + vs.length) * sz)).toArray := by
 intro vs
 induction vs with
 | nil => intro i cells _ _; simp [Instr.fill]
 | cons v vs ih =>
  intro i cells hs hc
  have hv := hs v (by simp)
  have hm : (i + (vs.length + 1)) * sz = i * sz + sz + vs.length * sz := by rw [Nat.add_mul, Nat.add_mul]; omega
  simp only [List.length_cons] at hc
  simp only [List.length_cons, List.range'_succ, List.zip_cons_cons]
  rw [fill_one (place := fun i => some (i * sz, sz)) (off := i * sz) (size := sz) rfl (by rw [hv]) (by rw [hm] at hc; omega)]
  rw [ih (i + 1) _ (fun u hu => hs u (by simp [hu])) (by simp [hv]; rw [show (i + 1 + vs.length) * sz = i * sz + sz + vs.length * sz by rw [show i + 1 + vs.length = i + (vs.length + 1) by omega, hm]]; omega)]
  congr 2
  have e1 : (cells.take (i * sz)).length = i * sz := by simp; omega
  have e2 : v.cells.toList.length = sz := by simp [hv]
  have e3 : (i + 1) * sz = i * sz + sz := by rw [Nat.add_mul, Nat.one_mul]
  have e4 : (i + 1 + vs.length) * sz = (i + (vs.length + 1)) * sz := by congr 1; omega
  rw [e3, e4, List.flatMap_cons]
  have e5 : (cells.take (i * sz) ++ v.cells.toList ++ cells.drop (i * sz + v.cells.size)).take (i * sz + sz) = cells.take (i * sz) ++ v.cells.toList := by
   rw [List.take_append_of_le_length (by simp [hv]; omega), List.take_of_length_le (by simp [hv]; omega)]
  have e6 : (cells.take (i * sz) ++ v.cells.toList ++ cells.drop (i * sz + v.cells.size)).drop ((i + (vs.length + 1)) * sz) = cells.drop ((i + (vs.length + 1)) * sz) := by
   rw [List.drop_append, List.drop_of_length_le (by simp [hv]; omega), List.nil_append, List.drop_drop]
   congr 1
   simp [hv, e1]
   omega
  rw [hv] at e5 e6
  rw [e5, e6]
  simp
theorem datInfo (hT : TabOk P T) {e : Nat} {te : TI} (h : T.get e = some te) : ∃ i zv, P.info? e = some i ∧ i.size = te.size ∧ i.bytes = te.bytes ∧ i.zero = some zv ∧ zv.cells.size = te.size := by
 obtain ⟨i, hi, hsz, hby, zv, hz, hzs⟩ := (hT _ _ h).info
 have h2 := (hzs (fun _ => none) (fun _ => undef) default).length
 rw [(hT _ _ h).zsize] at h2
 exact ⟨i, zv, hi, hsz, hby, hz, by simpa using h2⟩
theorem Rel.turned (R : Rel P w0 fp nt β st a w) {q : Nat} (hd : dstOk nt (some q) = true) (hfree : st.heap q = none) {gs : List Nat} {g : Reg} {bv : Value} {obj : Obj} (hgs : ∀ r ∈ gs, ∃ g, st.heap r = some g) (hbv : ∀ b, Blk bv b -> b = w.heap.size) (hfull : FullOk bv bv g)
  (hreg : ∀ h', (∀ b, Own h' (upd β q bv) b -> (Own st.heap β b ∧ ∀ r ∈ gs, ∀ g, st.heap r = some g -> g.live -> ¬ Blk (β r) b) ∨ b = w.heap.size) -> RegRel h' (upd β q bv) (w.alloc obj) bv g) :
  Rel P w0 fp nt (upd β q bv) (st.app (some q) ⟨.c (.full q), gs.map (fun r => (r, Reg.dead)) ++ [(q, g)], q :: gs⟩) (a.put (some q) bv) (w.alloc obj) := by
 have hne : ∀ r g1, st.heap r = some g1 -> r ≠ q := fun r g1 h e => by subst e; rw [hfree] at h; cases h
 have hkill : ∀ (h : Heap), heapPut h (gs.map (fun r => (r, Reg.dead)) ++ [(q, g)]) = upd (heapPut h (gs.map fun r => (r, Reg.dead))) q (some g) := by
  intro h
  have : ∀ (l l' : List (Nat × Reg)) (h : Heap), heapPut h (l ++ l') = heapPut (heapPut h l) l' := by
   intro l
   induction l with
   | nil => intro l' h; rfl
   | cons p l ih => intro l' h; obtain ⟨a, b⟩ := p; simp only [List.cons_append, heapPut]; exact ih _ _
  rw [this]
  rfl
 have hdead : ∀ (l : List Nat) (h : Heap) r, heapPut h (l.map fun r => (r, Reg.dead)) r = if r ∈ l then some .dead else h r := by
  intro l
  induction l with
  | nil => intro h r; simp [heapPut]
  | cons x l ih =>
   intro h r
   simp only [List.map_cons, heapPut]
   rw [ih]
   by_cases h1 : r ∈ l
   ·simp [h1]
   ·by_cases h2 : r = x
    ·subst h2; simp [h1, upd_same]
    ·simp [h1, h2, upd_ne _ _ h2]
 simp only [St.app]
 rw [hkill]
 have look : ∀ r g1, heapPut st.heap (gs.map fun r => (r, Reg.dead)) r = some g1 -> g1.live -> st.heap r = some g1 ∧ r ∉ gs := by
  intro r g1 h1 hl
  rw [hdead] at h1
  split at h1
  ·cases h1; cases hl
  ·rename_i hm; exact ⟨h1, hm⟩
 have hownR : ∀ b, OwnR (upd (heapPut st.heap (gs.map fun r => (r, Reg.dead))) q (some g)) (upd β q bv) b -> (OwnR st.heap β b ∧ ∀ r ∈ gs, ∀ g, st.heap r = some g -> g.live -> ¬ Blk (β r) b) ∨ b = w.heap.size := by
  rintro b ⟨r, g1, h1, h2, h3⟩
  by_cases e : r = q
  ·subst e
   rw [upd_same] at h3
   exact .inr (hbv b h3)
  ·rw [upd_ne _ _ e] at h1 h3
   obtain ⟨h4, h5⟩ := look r g1 h1 h2
   refine .inl ⟨⟨r, g1, h4, h2, h3⟩, fun r' hr' g' hg' hl' hb' => ?_⟩
   have := R.sep r r' g1 g' b h4 hg' h2 hl' h3 hb'
   subst this
   exact h5 hr'
 refine R.update (w' := w.alloc obj) hd rfl rfl rfl (by simp) (dst_hid R hd _) (fun b hb _ => Below.heap_alloc w obj b hb) (fun b hb => (hownR b hb).imp (·.1) fun h => by omega) ?_ ?_ ?_ ?_ ?_
 ·intro r g1 h1
  have e := hne r g1 h1
  rw [upd_ne _ _ e, hdead]
  split
  ·exact ⟨.dead, rfl, by cases g1 <;> trivial, fun h => h.elim⟩
  ·exact ⟨g1, h1, .refl g1, fun _ => upd_ne _ _ e⟩
 ·intro r g1 hio h1
  have e : r ≠ q := fun h => by
   have h1 : q < nt := by simpa [dstOk, Nat.blt_eq] using hd
   have := R.small
   omega
  rw [upd_ne _ _ e, hdead] at h1
  split at h1
  ·rename_i hm; exact hgs r hm
  ·exact ⟨g1, h1⟩
 ·intro M r g1 h1
  by_cases e : r = q
  ·subst e
   rw [upd_same] at h1
   cases h1
   rw [upd_same]
   refine hreg _ fun b hb => ?_
   rcases hb with hb | hb
   ·exact (hownR b hb).imp (fun h => ⟨.inl h.1, h.2⟩) id
   ·have hb := hb.congr (dst_hid R hd bv)
    exact .inl ⟨.inr hb, fun r _ g hg hl hbb => R.apart ⟨r, g, hg, hl, hbb⟩ hb⟩
  ·rw [upd_ne _ _ e] at h1
   rw [upd_ne _ _ e]
   rw [hdead] at h1
   split at h1
   ·cases h1; trivial
   ·exact (R.heap r g1 h1).mono M fun b hb hl => Below.heap_alloc w obj b (OwnR.lt R ⟨r, g1, h1, hl, hb⟩)
 ·intro r r' g1 g2 b h1 h2 l1 l2 e1 e2
  by_cases d1 : r = q <;> by_cases d2 : r' = q
  ·rw [d1, d2]
  ·subst d1
   rw [upd_same] at e1
   rw [upd_ne _ _ d2] at h2 e2
   have := hbv b e1
   have := OwnR.lt R ⟨r', g2, (look r' g2 h2 l2).1, l2, e2⟩
   omega
  ·subst d2
   rw [upd_same] at e2
   rw [upd_ne _ _ d1] at h1 e1
   have := hbv b e2
   have := OwnR.lt R ⟨r, g1, (look r g1 h1 l1).1, l1, e1⟩
   omega
  ·rw [upd_ne _ _ d1] at h1 e1
   rw [upd_ne _ _ d2] at h2 e2
   exact R.sep r r' g1 g2 b (look r g1 h1 l1).1 (look r' g2 h2 l2).1 l1 l2 e1 e2
 ·intro _
  simp only [AVRel, CVRel]
  exact ⟨g, upd_same _ _ _, by rw [upd_same]; exact hfull⟩
theorem frzSl_gs {h : Heap} {t : DT} {c : CV} {xs : List t.T} {gs : List Nat} (e : frzSl h t c = some (xs, gs)) : ∀ r ∈ gs, ∃ g, h r = some g := by
 unfold frzSl at e
 split at e
 ·split at e
  ·split at e <;> cases e <;> simp
  ·cases e
 ·obtain ⟨_, h2⟩ := cond_some e; cases h2; simp
 ·split at e
  ·rename_i hr
   split at e
   ·cases e; intro r hr'; simp only [List.mem_singleton] at hr'; subst hr'; exact ⟨_, hr⟩
   ·cases e
  ·rename_i hr
   split at e
   ·cases e; intro r hr'; simp only [List.mem_singleton] at hr'; subst hr'; exact ⟨_, hr⟩
   ·cases e
  ·rename_i hr
   split at e
   ·cases e; intro r hr'; simp only [List.mem_singleton] at hr'; subst hr'; exact ⟨_, hr⟩
   ·cases e
  ·cases e
 ·split at e
  ·rename_i hr
   split at e
   ·cases e; intro r hr'; simp only [List.mem_singleton] at hr'; subst hr'; exact ⟨_, hr⟩
   ·cases e
  ·rename_i hr
   obtain ⟨_, e⟩ := cond_some e
   split at e
   ·split at e
    ·cases e; intro r hr'; simp only [List.mem_singleton] at hr'; subst hr'; exact ⟨_, hr⟩
    ·cases e
   ·cases e
  ·cases e
 ·split at e
  ·rename_i hr
   split at e
   ·obtain ⟨_, e⟩ := cond_some e
    split at e
    ·cases e; intro r hr'; simp only [List.mem_singleton] at hr'; subst hr'; exact ⟨_, hr⟩
    ·cases e
   ·cases e
  ·cases e
 ·cases e
theorem frzD_gs {h : Heap} : ∀ {t : DT} {cs rest : List CV} {x : t.T} {gs : List Nat}, frzD h t cs = some (x, rest, gs) -> ∀ r ∈ gs, ∃ g, h r = some g := by
 intro t
 induction t with
 | sl t ih =>
  intro cs rest x gs e
  simp only [frzD] at e
  split at e
  ·split at e
   ·rename_i hf; cases e; exact frzSl_gs hf
   ·cases e
  ·cases e
 | item =>
  intro cs rest x gs e
  simp only [frzD] at e
  split at e
  ·split at e
   ·rename_i h1 h2
    cases e
    intro r hr
    rcases List.mem_append.1 hr with h | h
    ·exact frzSl_gs h1 r h
    ·exact frzSl_gs h2 r h
   ·cases e
  ·cases e
 | pair a b iha ihb =>
  intro cs rest x gs e
  simp only [frzD] at e
  split at e
  ·rename_i h1
   split at e
   ·rename_i h2
    cases e
    intro r hr
    rcases List.mem_append.1 hr with h | h
    ·exact iha h1 r h
    ·exact ihb h2 r h
   ·cases e
  ·cases e
 | pt t ih => intro cs rest x gs e; simp [frzD] at e
 | unit => intro cs rest x gs e; simp [frzD] at e
 | _ =>
  intro cs rest x gs e
  simp only [frzD] at e
  split at e <;> first | (cases e; done) | (cases e; intro r hr; simp at hr) | (obtain ⟨_, h2⟩ := cond_some e; cases h2; intro r hr; simp at hr)
theorem seqDat_gs {h : Heap} {d : DT} : ∀ {l : List (Nat × AV)} {i : Nat} {xs : List d.T} {gs : List Nat}, seqDat h d i l = some (xs, gs) -> ∀ r ∈ gs, ∃ g, h r = some g := by
 intro l
 induction l with
 | nil => intro i xs gs e; cases e; simp
 | cons p l ih =>
  obtain ⟨j, av⟩ := p
  intro i xs gs e
  simp only [seqDat] at e
  obtain ⟨_, e2⟩ := cond_some e
  clear e
  split at e2
  ·split at e2
   ·rename_i hf
    split at e2
    ·rename_i hs
     cases e2
     intro r hr
     rcases List.mem_append.1 hr with h | h
     ·exact frzD_gs hf r h
     ·exact ih hs r h
    ·cases e2
   ·cases e2
  ·cases e2
theorem FzL.mono {own own' : Nat -> Prop} {w w' : World} (H : ∀ (x : Addr) v, ¬ own x.block -> ucell w x = some v -> ucell w' x = some v ∧ ¬ own' x.block) : ∀ {cs : List CV} {l : List Value}, FzL w own cs l -> FzL w' own' cs l := by
 intro cs
 induction cs with
 | nil => exact fun h => h
 | cons c cs ih =>
  intro l h
  cases c <;> simp only [FzL] at h ⊢
  case ints k n f => obtain ⟨r, hl, h⟩ := h; exact ⟨r, hl, ih h⟩
  all_goals (obtain ⟨v, r, hl, hv, h⟩ := h; exact ⟨v, r, hl, hv.mono H, ih h⟩)
theorem cells_alloc {w : World} {obj : Obj} {x : Addr} {v : Value} (h : ucell w x = some v) : ucell (w.alloc obj) x = some v := by
 have hlt := World.block_lt_of_cell? w x (ucell_cell h)
 exact (ucell_of_block (Below.heap_alloc w obj x.block hlt)).trans h
theorem buildDat_rel (hT : TabOk P T) (R : Rel P w0 fp nt β st a w) (hd : dstOk nt o.dst = true) {t n : Nat} {ps : Array (Nat × Operand)} (hop : o.op = .buildSlice t n ps) {rq : Option Req} {δ : Delta} (e : aop2 T o st = some (rq, δ)) :
  ∃ v w', (Instr.buildSlice t n (ps.map fun (i, x) => (i, a.eval x))).run P w = .ok v w' ∧ ∃ β', Rel P w0 fp nt β' (st.app o.dst δ) (a.put o.dst v) w' := by
 simp only [aop2, hop] at e
 split at e
 ·rename_i q el _ _ _ l hdst h1 h2
  have ht := tdSlice (hT _ _ h1)
  obtain ⟨hi1, hi2⟩ := partsAV_rel R h2
  have hpl : (ps.map fun (i, x) => (i, a.eval x)).toList = (l.map (·.1)).zip (ps.toList.map fun p => a.eval p.2) := by
   rw [hi1, Array.toList_map, List.zip_map']
  split at e
  ·rename_i te d h3 h4 hfree
   split at e
   ·rename_i xs gs h5
    have h60 := cond_some e
    have h6 := h60.1
    have e2 := h60.2
    clear h60 e
    cases e2
    simp only [Bool.and_eq_true] at h6
    obtain ⟨⟨⟨⟨hn, hnl⟩, hsz⟩, hpos⟩, hns⟩ := h6
    have hns := nble.1 hns
    have hn := nble.1 hn
    have hnl := nbeq.1 hnl
    have hsz := nbeq.1 hsz
    have hpos := nblt.1 hpos
    obtain ⟨i, zv, hi, his, hby, hz, hzs⟩ := datInfo hT h3
    have hown0 : OwnLess st β gs (fun b => Own st.heap β b ∧ ∀ r ∈ gs, ∀ g, st.heap r = some g -> g.live -> ¬ Blk (β r) b) := fun b hb => hb
    obtain ⟨g1, g2, g3, g4⟩ := seqDat_rel R h5 hi2 hown0
    have hvl : (ps.toList.map fun p => a.eval p.2).length = n := by rw [hi2.length, List.length_map, <- hnl]
    have hzero : (zeroValue el).run P w = .ok zv w := by simp [zeroValue, typeInfo, hi, hz]
    have hcl : ((ps.toList.map fun p => a.eval p.2).flatMap fun v => v.cells.toList).length = n * te.size := by
     have : ∀ {vs : List Value}, (∀ v ∈ vs, v.cells.size = d.size) -> (vs.flatMap fun v => v.cells.toList).length = vs.length * d.size := by
      intro vs
      induction vs with
      | nil => intro _; simp
      | cons v vs ih => intro h; rw [List.flatMap_cons, List.length_append, ih (fun u hu => h u (by simp [hu]))]; simp [h v (by simp), Nat.add_mul]; omega
     rw [this g4, hvl, hsz]
    have hfill : ∀ zs : Array Value, zs.size = n * te.size -> Instr.fill (fun i => some (i * te.size, te.size)) zs ((l.map (·.1)).zip (ps.toList.map fun p => a.eval p.2)) = some ((ps.toList.map fun p => a.eval p.2).flatMap fun v => v.cells.toList).toArray := by
     intro zs hzs
     have := fill_dat (sz := te.size) (ps.toList.map fun p => a.eval p.2) 0 zs.toList (fun v hv => by rw [g4 v hv, hsz]) (by simp [hvl, hzs])
     rw [hvl] at this
     rw [g1, <- hnl]
     rw [show zs.toList.toArray = zs by simp] at this
     rw [this]
     simp [hzs]
    have hrun : (Instr.buildSlice t n (ps.map fun (i, x) => (i, a.eval x))).run P w = .ok (.slice (some ⟨w.heap.size, 0, none⟩) n n) (w.alloc (.cells ((ps.toList.map fun p => a.eval p.2).flatMap fun v => v.cells.toList).toArray el)) := by
     simp only [Instr.buildSlice, Sem.run_bind, run_underlying ht, Result.andThen_ok, run_sizeOf hi, his]
     rw [if_neg (by omega)]
     by_cases h0 : n * te.size = 0
     ·rw [if_pos h0]
      simp only [Sem.run_pure, Result.andThen_ok, Sem.run_bind]
      rw [hpl, hfill _ (by simp)]
      simp [newRow]
     ·rw [if_neg h0]
      simp only [Sem.run_pure, Result.andThen_ok, Sem.run_bind, hzero]
      rw [hpl, hfill _ (by simp)]
      simp [newRow]
    refine ⟨_, _, hrun, ?_⟩
    rw [hdst] at hd ⊢
    have hxl : xs.length = n := by rw [g2, hnl]
    refine ⟨_, R.turned (bv := .slice (some ⟨w.heap.size, 0, none⟩) n n) hd hfree (seqDat_gs h5) (fun b hb => by simp only [Blk_ptr, Blk_slice, Blk_map] at hb; exact hb.symm) ⟨rfl, rfl⟩ (fun h' hown => ?_)⟩
    refine .inr ⟨w.heap.size, n, _, [], by rw [hxl], ?_, ?_, by rw [hcl, hsz]; simp, by omega, by unfold maxLen; omega⟩
    ·rw [List.append_nil]; exact heap_alloc_new w _
    ·refine FzL.segs (FzL.mono (fun x v hx hc => ⟨cells_alloc hc, fun ho => ?_⟩) g3)
     rcases hown _ ho with h | h
     ·exact hx h
     ·have := World.block_lt_of_cell? w x (ucell_cell hc)
      omega
   ·cases e
  ·cases e
 ·cases e
theorem dataOf_rel (R : Rel P w0 fp nt β st a w) {d : DT} {x : AV} {u : Value} (hx : AVRel st.heap β w x u) {xs : List d.T} {rs : List Nat} (e : dataOf st.heap d x = some (xs, rs)) :
  ∃ A c l, u = .slice A xs.length c ∧ (A = none -> xs = []) ∧ (∀ A', A = some A' -> ∀ j v, l[j]? = some v -> w.cell? (A'.add j) = some v) ∧ SegsRel st.heap β w (xs.flatMap (encD d)) l := by
 unfold dataOf at e
 split at e
 ·rename_i r
  simp only [AVRel, CVRel] at hx
  obtain ⟨g, hg, hp⟩ := hx
  split at e
  ·rename_i e' d' ys hr
   rw [hr] at hg
   cases hg
   split at e
   ·rename_i zs hz
    cases e
    obtain ⟨e0, hz⟩ := asDT_spec hz
    subst e0; subst hz
    obtain ⟨rfl, _⟩ := hp
    rcases R.heap r _ hr with ⟨hn, he⟩ | ⟨b, cap, l, tail, hbv, hh, hs, hl, hxc, hm⟩
    ·subst he
     exact ⟨none, 0, [], hn, fun _ => rfl, (fun A' h => by cases h), rfl⟩
    ·refine ⟨_, cap, l, hbv, (fun h => by cases h), (fun A' hA j v hv => ?_), hs⟩
     cases hA
     rw [add_lit, Nat.zero_add]
     have := win_block hh j v (by simp only []; rw [List.getElem?_append_left (List.getElem?_eq_some_iff.1 hv).1]; exact hv)
     rw [add_lit, Nat.zero_add] at this
     exact this
   ·cases e
  ·cases e
 ·rename_i d' ys n
  split at e
  ·rename_i zs hz
   obtain ⟨e0, hz⟩ := asDT_spec hz
   subst e0; subst hz
   simp only [AVRel, CVRel] at hx
   have key : ∀ (m : Nat) (zs : List d'.T), FzV w (Own st.heap β) (.fz d' ys n) u -> zs = ys.take m -> m = lenOfFz ys n -> m ≤ ys.length -> ∃ A c l, u = .slice A zs.length c ∧ (A = none -> zs = []) ∧ (∀ A', A = some A' -> ∀ j v, l[j]? = some v -> w.cell? (A'.add j) = some v) ∧ SegsRel st.heap β w (zs.flatMap (encD d')) l := by
    intro m zs hf hzs hm hle
    cases hf with
    | fz _ _ _ A cap hn hc h0 hat =>
     have hzl : zs.length = m := by rw [hzs, List.length_take]; omega
     cases A with
     | none =>
      have hnil : zs = [] := by rw [hzs, (h0 rfl).1]; simp
      refine ⟨none, cap, [], by rw [<- hm, hzl], (fun _ => hnil), (fun A' h => by cases h), by rw [hnil]; rfl⟩
     | some A =>
      have hwin : ∀ (k : Nat) (zs : List d'.T), (∀ i (hi : i < zs.length), FzAt w (Own st.heap β) (encD d' zs[i]) (A.add ((k + i) * d'.size))) -> ∃ l, SegsRel st.heap β w (zs.flatMap (encD d')) l ∧ ∀ j v, l[j]? = some v -> w.cell? (A.add (k * d'.size + j)) = some v := by
       intro k zs
       induction zs generalizing k with
       | nil => intro _; exact ⟨[], rfl, fun j v h => by simp at h⟩
       | cons z zs ih =>
        intro H
        obtain ⟨l1, h1, h2⟩ := fz_win (H 0 (by simp))
        obtain ⟨l2, h3, h4⟩ := ih (k + 1) (fun i hi => by have := H (i + 1) (by simpa using hi); simpa [show k + 1 + i = k + (i + 1) by omega] using this)
        refine ⟨l1 ++ l2, by rw [List.flatMap_cons]; exact h1.append h3, fun j v hj => ?_⟩
        have hl1 := h1.length
        rw [List.getElem_cons_zero, encD_size] at hl1
        by_cases hjl : j < l1.length
        ·rw [List.getElem?_append_left hjl] at hj
         have := h2 j v hj
         rw [add_add] at this
         simpa using this
        ·rw [List.getElem?_append_right (by omega)] at hj
         have := h4 _ v hj
         rwa [show (k + 1) * d'.size + (j - l1.length) = k * d'.size + j by rw [Nat.add_mul, Nat.one_mul]; omega] at this
      obtain ⟨l, h1, h2⟩ := hwin 0 zs (fun i hi => by
       have := hat A rfl i (by omega)
       subst hzs
       rw [List.getElem_take, Nat.zero_add]; exact this)
      refine ⟨some A, cap, l, by rw [<- hm, hzl], (fun h => by cases h), (fun A' hA j v hv => ?_), h1⟩
      cases hA
      have := h2 j v hv
      rwa [Nat.zero_mul, Nat.zero_add] at this
   split at e
   ·rename_i m
    cases e
    exact key m _ hx rfl rfl (by cases hx with | fz _ _ _ A cap hn _ _ _ => exact hn)
   ·cases e
    exact key ys.length _ hx (by simp) rfl (Nat.le_refl _)
  ·cases e
 ·rename_i v
  obtain ⟨h1, h2⟩ := cond_some e
  cases h2
  obtain rfl := isNilS_spec h1
  simp only [AVRel, CVRel] at hx
  subst hx
  exact ⟨none, 0, [], rfl, fun _ => rfl, (fun A' h => by cases h), rfl⟩
 ·cases e
end
end Go.Abs
namespace Go.Abs
universe u
open Go.RowKit
def mkEnt (p : Int × Int) : Value × Value := (.int .i64 p.1, .int .i64 p.2)
theorem find_im {a : Int} : ∀ {es : List MapEntry} {xs : List (Int × Int)} (i : Nat), es.map (fun e => (e.key, e.val)) = xs.map mkEnt ->
  (Instr.findNow (.int .i64) (.int .i64 a) es i = some none ∧ imGet xs a = 0 ∧ ∀ v, imPut xs a v = xs ++ [(a, v)]) ∨
  ∃ j e, j < xs.length ∧ es[j]? = some e ∧ e.key = .int .i64 a ∧ Instr.findNow (.int .i64) (.int .i64 a) es i = some (some (i + j, .int .i64 (imGet xs a))) ∧ ∀ v, imPut xs a v = xs.set j (a, v) := by
 intro es
 induction es with
 | nil =>
  intro xs i h
  cases xs with
  | nil => exact .inl ⟨rfl, rfl, fun v => rfl⟩
  | cons => simp at h
 | cons e es ih =>
  intro xs i h
  cases xs with
  | nil => simp at h
  | cons p xs =>
   obtain ⟨k, x⟩ := p
   simp only [List.map_cons, List.cons.injEq, mkEnt, Prod.mk.injEq] at h
   obtain ⟨⟨h1, h2⟩, h3⟩ := h
   have hs : Instr.sameNow (.int .i64) (.int .i64 a) e.key = some (a == k) := by
    rw [h1]; simp [Instr.sameNow]
   cases hb : (a == k) with
   | true =>
    have hk : a = k := by simpa using hb
    refine .inr ⟨0, e, by simp, rfl, by rw [h1, hk], ?_, fun v => ?_⟩
    ·simp only [Instr.findNow, hs, hb, imGet, cond_true, h2, Nat.add_zero]
    ·simp only [imPut, hb, cond_true, List.set_cons_zero]
   | false =>
    rcases ih (xs := xs) (i + 1) h3 with ⟨g1, g2, g3⟩ | ⟨j, e', g1, g2, g3, g4, g5⟩
    ·refine .inl ⟨?_, ?_, fun v => ?_⟩
     ·simp only [Instr.findNow, hs, hb, g1]
     ·simp only [imGet, hb, cond_false, g2]
     ·simp only [imPut, hb, cond_false, g3, List.cons_append]
    ·refine .inr ⟨j + 1, e', by simp; omega, by simpa using g2, g3, ?_, fun v => ?_⟩
     ·simp only [Instr.findNow, hs, hb, g4, imGet, cond_false]
      congr 3
      omega
     ·simp only [imPut, hb, cond_false, g5, List.set_cons_succ]
theorem tdMap {P : Program} {t k e : Nat} {s b : Nat} {z : List CV} (h : TIOk P t ⟨.map k e, s, b, z⟩) : P.underlying t = some (.map k e) := by
 obtain ⟨d, hu, hd⟩ := h.desc
 cases d <;> simp only [TDRel] at hd
 obtain ⟨rfl, rfl⟩ := hd
 exact hu
section
variable {P : Program} {w0 : World} {fp : FP} {nt : Nat} {β : Nat -> Value} {st : St} {a : Act} {w : World} {T : Tab} {o : Oper} {Q : Exit -> Act -> World -> Prop}
theorem isI64_spec (hT : TabOk P T) {t : Nat} (h : isI64 T t = true) : P.underlying t = some (.int .i64) ∧ ∀ w, (zeroValue t).run P w = .ok (.int .i64 0) w := by
 unfold isI64 at h
 split at h
 ·rename_i sz by' h1
  have hk := hT _ _ h1
  obtain ⟨d, hu, hd⟩ := hk.desc
  obtain ⟨i, hi, _, _, zv, hz, hzs⟩ := hk.info
  obtain ⟨i', k', n', hi', hz'⟩ := hk.zint .i64 rfl
  refine ⟨?_, fun w => ?_⟩
  ·cases d <;> simp only [TDRel] at hd
   rw [hd] at hu; exact hu
  ·have h2 := hzs (fun _ => none) (fun _ => undef) w
   simp only [SegsRel, CVRel] at h2
   obtain ⟨v, r, h3, _, rfl, rfl⟩ := h2
   rw [hi] at hi'
   cases hi'
   rw [hz] at hz'
   cases hz'
   have : Value.int k' n' = .int .i64 0 := by
    simpa [Value.cells] using h3
   rw [this] at hz
   simp [zeroValue, typeInfo, hi, hz]
 ·cases h
theorem isMapT_spec (hT : TabOk P T) {t : Nat} (h : isMapT T t = true) : ∃ k e, P.underlying t = some (.map k e) ∧ P.underlying k = some (.int .i64) ∧ ∀ w, (zeroValue e).run P w = .ok (.int .i64 0) w := by
 unfold isMapT at h
 split at h
 ·rename_i k e _ _ _ h1
  simp only [Bool.and_eq_true] at h
  exact ⟨k, e, tdMap (hT _ _ h1), (isI64_spec hT h.1).1, (isI64_spec hT h.2).2⟩
 ·cases h
theorem imap_get (hT : TabOk P T) {t : Nat} (ht : isMapT T t = true) {b clock : Nat} {es : Array MapEntry} {xs : List (Int × Int)} (hb : w.heap[b]? = some (.map es clock)) (he : es.toList.map (fun e => (e.key, e.val)) = xs.map mkEnt) (x : Int) :
  (Instr.lookup t (.map (some b)) (.int .i64 x) false).run P w = .ok (.int .i64 (imGet xs x)) w := by
 obtain ⟨k, e, h1, h2, h3⟩ := isMapT_spec hT ht
 have hk : MapKept.IsKey (.int .i64) (.int .i64 x) := by simp [MapKept.IsKey]
 rcases find_im (a := x) 0 he with ⟨g1, g2, _⟩ | ⟨j, e', g1, g2, g3, g4, _⟩
 ·simp [Instr.lookup, run_underlying h1, MapKept.run_getObj_map hb, MapKept.run_checkKey h2 hk, MapKept.run_findKey h2 g1, h3, g2, Result.andThen]
 ·simp [Instr.lookup, run_underlying h1, MapKept.run_getObj_map hb, MapKept.run_checkKey h2 hk, MapKept.run_findKey h2 g4, Result.andThen]
theorem imap_put (hT : TabOk P T) {t : Nat} (ht : isMapT T t = true) {b clock : Nat} {es : Array MapEntry} {xs : List (Int × Int)} (hb : w.heap[b]? = some (.map es clock)) (he : es.toList.map (fun e => (e.key, e.val)) = xs.map mkEnt) (x y : Int) :
  ∃ (es' : Array MapEntry) (clock' : Nat), (Instr.mapUpdate t (.map (some b)) (.int .i64 x) (.int .i64 y)).run P w = .ok () { w with heap := w.heap.setIfInBounds b (.map es' clock') } ∧
   es'.toList.map (fun e => (e.key, e.val)) = (imPut xs x y).map mkEnt := by
 obtain ⟨k, e, h1, h2, h3⟩ := isMapT_spec hT ht
 have hk : MapKept.IsKey (.int .i64) (.int .i64 x) := by simp [MapKept.IsKey]
 rcases find_im (a := x) 0 he with ⟨g1, _, g2⟩ | ⟨j, e', g1, g2, g3, g4, g5⟩
 ·refine ⟨es.push ⟨.int .i64 x, .int .i64 y, clock⟩, clock + 1, ?_, ?_⟩
  ·simp [Instr.mapUpdate, run_underlying h1, MapKept.run_getObj_map hb, MapKept.run_checkKey h2 hk, MapKept.run_findKey h2 g1, MapKept.run_setObj_map _ hb, Result.andThen]
  ·rw [g2, Array.toList_push, List.map_append, List.map_append, he]; rfl
 ·have g2' : es[j]? = some e' := by simpa using g2
  refine ⟨es.modify j fun z => { z with key := .int .i64 x, val := .int .i64 y }, clock, ?_, ?_⟩
  ·rw [Nat.zero_add] at g4
   simp [Instr.mapUpdate, run_underlying h1, MapKept.run_getObj_map hb, MapKept.run_checkKey h2 hk, MapKept.run_findKey h2 g4, g2', g3, MapKept.run_keyThatStays hk, MapKept.run_setObj_map _ hb, Result.andThen]
  ·rw [g5, List.map_set]
   apply List.ext_getElem?
   intro i
   rw [<- he, Array.toList_modify, List.getElem?_map, List.getElem?_modify, List.getElem?_set, List.getElem?_map]
   have hj : j < es.toList.length := (List.getElem?_eq_some_iff.1 g2).1
   by_cases hij : j = i
   ·subst hij
    rw [if_pos rfl, if_pos (by simpa using hj)]
    simp only [g2, Option.map_some]
    simp [mkEnt]
   ·rw [if_neg hij]
    cases es.toList[i]? with
    | none => rfl
    | some z => simp [hij]
theorem Rel.writeO (R : Rel P w0 fp nt β st a w) {r b : Nat} {g g' : Reg} {w' : World} (hg : st.heap r = some g) (hl : g.live) (hbv : Blk (β r) b) (hs : Shape g g') {dst : Option Nat} (hd : dstOk nt dst = true)
  (hos : w'.os = w.os) (htape : w'.tape = w.tape) (hout : w'.output = w.output) (hgrow : w.heap.size ≤ w'.heap.size) (hoth : ∀ b', b' ≠ b -> w'.heap[b']? = w.heap[b']?)
  (hreg : ∀ h', Mono st.heap β w h' β w' -> RegRel h' β w' (β r) g') :
  Rel P w0 fp nt β { env := putEnv st.env dst (.c (.val undef)), heap := upd st.heap r (some g') } (a.put dst undef) w' := by
 have hob : OwnR st.heap β b := ⟨r, g, hg, hl, hbv⟩
 have hOwn : ∀ b', OwnR (upd st.heap r (some g')) β b' -> OwnR st.heap β b' := by
  rintro b' ⟨r', g1, h1, h2, h3⟩
  by_cases e : r' = r
  ·subst e; exact ⟨r', g, hg, hl, h3⟩
  ·rw [upd_ne _ _ e] at h1; exact ⟨r', g1, h1, h2, h3⟩
 refine R.update (w' := w') hd hos htape hout hgrow (fun _ _ => rfl) (fun b' _ hn => hoth b' (fun e => hn (e ▸ hob))) (fun b' h => .inl (hOwn b' h)) ?_ ?_ ?_ ?_ (fun _ => by simp only [AVRel, CVRel])
 ·intro r' g1 h1
  by_cases e : r' = r
  ·subst e
   rw [hg] at h1
   cases h1
   exact ⟨g', upd_same _ _ _, hs, fun _ => rfl⟩
  ·exact ⟨g1, by rw [upd_ne _ _ e]; exact h1, .refl g1, fun _ => rfl⟩
 ·intro q g1 _ h1
  by_cases e : q = r
  ·subst e; exact ⟨g, hg⟩
  ·rw [upd_ne _ _ e] at h1; exact ⟨g1, h1⟩
 ·intro M r' g1 h1
  by_cases e : r' = r
  ·subst e
   rw [upd_same] at h1
   cases h1
   exact hreg _ M
  ·rw [upd_ne _ _ e] at h1
   refine (R.heap r' g1 h1).mono M fun b' hb' hl1 => hoth b' (fun e' => ?_)
   subst e'
   exact e (R.sep r' r g1 g b' h1 hg hl1 hl hb' hbv)
 ·intro r1 r2 g1 g2 b' h1 h2 l1 l2 e1 e2
  have back : ∀ r' g1, upd st.heap r (some g') r' = some g1 -> g1.live -> ∃ g2, st.heap r' = some g2 ∧ g2.live := by
   intro r' g1 h1 l1
   by_cases e : r' = r
   ·subst e; exact ⟨g, hg, hl⟩
   ·rw [upd_ne _ _ e] at h1; exact ⟨g1, h1, l1⟩
  obtain ⟨g1', h1', l1'⟩ := back r1 g1 h1 l1
  obtain ⟨g2', h2', l2'⟩ := back r2 g2 h2 l2
  exact R.sep r1 r2 g1' g2' b' h1' h2' l1' l2' e1 e2
theorem aop3_sound (hT : TabOk P T) (R : Rel P w0 fp nt β st a w) (hd : dstOk nt o.dst = true) {rq : Option Req} {δ : Delta} (e : aop3 T o st = some (rq, δ)) :
  o.wp P a w (Post P w0 fp nt (st.app o.dst δ)) Q := by
 have fin : ∀ (v : Value), (execOp a.eval o).run P w = .ok (.value v) w -> δ.hw = [] -> AVRel st.heap β w δ.av v -> o.wp P a w (Post P w0 fp nt (st.app o.dst δ)) Q := by
  intro v h1 h2 h3
  obtain ⟨av, hw, hr'⟩ := δ
  simp only at h2
  subst h2
  exact fin_pure R hd h1 h3
 have full : ∀ {r : Nat} {xs : List (Int × Int)} {u : Value}, AVRel st.heap β w (.c (.full r)) u -> st.heap r = some (.imap xs) -> ∃ b es clock, u = .map (some b) ∧ β r = .map (some b) ∧ w.heap[b]? = some (.map es clock) ∧ es.toList.map (fun e => (e.key, e.val)) = xs.map mkEnt := by
  intro r xs u hu hg
  simp only [AVRel, CVRel] at hu
  obtain ⟨g, hg', hp⟩ := hu
  rw [hg] at hg'
  cases hg'
  obtain ⟨rfl, _⟩ := hp
  obtain ⟨b, es, clock, h1, h2, h3⟩ := R.heap r _ hg
  exact ⟨b, es, clock, h1, h1, h2, h3⟩
 cases hop : o.op
 case makeMap t rsv =>
  cases rsv with
  | some _ => simp only [aop3, hop] at e; cases e
  | none =>
   simp only [aop3, hop] at e
   obtain ⟨h1, e⟩ := cond_some e
   split at e
   ·rename_i q hq
    split at e
    ·rename_i hfree
     cases e
     rw [hq] at hd
     have hrun : (execOp a.eval o).run P w = .ok (.value (.map (some w.heap.size))) (w.alloc (.map #[] 0)) := by
      simp only [execOp, hop, Option.map_none]
      rfl
     refine wp_val hrun ⟨upd β q (.map (some w.heap.size)), ?_⟩
     rw [hq]
     refine R.new (bv := .map (some w.heap.size)) hd hfree (fun b hb => by simp only [Blk_ptr, Blk_slice, Blk_map] at hb; exact hb.symm) (fun h' M => ⟨w.heap.size, #[], 0, rfl, ?_, rfl⟩) ?_
     ·exact (MapKept.heap_alloc w _).1
     ·simp only [AVRel, CVRel]
      refine ⟨.imap [], upd_same _ _ _, ?_⟩
      rw [upd_same]
      exact ⟨rfl, rfl⟩
    ·cases e
   ·cases e
 case lookup t x i ok =>
  cases ok with
  | true => simp only [aop3, hop] at e; cases e
  | false =>
   simp only [aop3, hop] at e
   obtain ⟨h1, e⟩ := cond_some e
   split at e
   ·rename_i r y h2 h3
    split at e
    ·rename_i xs hg
     cases e
     obtain ⟨b, es, clock, hu, _, hb, he⟩ := full (opd_rel R h2) hg
     have hi := opd_rel R h3
     simp only [AVRel, CVRel] at hi
     refine fin (.int .i64 (imGet xs y)) ?_ rfl (by simp only [AVRel, CVRel])
     simp only [execOp, hop, hu, hi, Sem.run_bind, imap_get hT h1 hb he y]
     rfl
    ·cases e
   ·cases e
 case mapUpdate t x i v =>
  simp only [aop3, hop] at e
  obtain ⟨h1, e⟩ := cond_some e
  split at e
  ·rename_i r y z h2 h3 h4
   split at e
   ·rename_i xs hg
    cases e
    obtain ⟨b, es, clock, hu, hbv, hb, he⟩ := full (opd_rel R h2) hg
    have hi := opd_rel R h3
    simp only [AVRel, CVRel] at hi
    have hv := opd_rel R h4
    simp only [AVRel, CVRel] at hv
    obtain ⟨es', clock', hrun, he'⟩ := imap_put hT h1 hb he y z
    refine wp_skip' (w' := { w with heap := w.heap.setIfInBounds b (.map es' clock') }) ?_ ⟨β, ?_⟩
    ·simp only [execOp, hop, hu, hi, hv, Sem.run_bind, hrun]
     rfl
    ·refine R.writeO hg trivial (by rw [hbv]; rfl) (by trivial) hd rfl rfl rfl (by simp) (fun b' hne => (MapKept.heap_set hb).2 b' hne) (fun h' M => ?_)
     exact ⟨b, es', clock', hbv, (MapKept.heap_set hb).1, he'⟩
   ·cases e
  ·cases e
 case call c =>
  obtain ⟨callee, args, tys⟩ := c
  cases callee with
  | value => simp only [aop3, hop] at e; cases e
  | invoke => simp only [aop3, hop] at e; cases e
  | builtin b =>
   cases b <;> simp only [aop3, hop] at e <;> try (cases e; done)
   split at e
   ·rename_i r t h1 h2
    obtain ⟨h3, e⟩ := cond_some e
    split at e
    ·rename_i xs hg
     cases e
     have hx := opds_rel R h1
     simp only [AVsRel] at hx
     obtain ⟨u, r', h4, hu, rfl⟩ := hx
     have ha : args.map a.eval = #[u] := by
      apply Array.toList_inj.1
      simpa using h4
     have ht : tys = #[t] := by
      apply Array.toList_inj.1
      simpa using h2
     obtain ⟨b, es, clock, rfl, _, hb, he⟩ := full hu hg
     obtain ⟨k, e, h5, _, _⟩ := isMapT_spec hT h3
     have hlen : es.size = xs.length := by simpa using congrArg List.length he
     refine fin (.int .i64 (xs.length : Nat)) ?_ rfl (by simp only [AVRel, CVRel])
     simp [execOp, hop, resolve, invoke, builtin, Sem.run_bind, ha, ht, Builtin.len_, run_underlying h5, MapKept.run_getObj_map hb, goInt, hlen]
    ·cases e
   ·cases e
 all_goals (simp only [aop3, hop] at e; cases e)
end
theorem aop3_dep {T : Tab} {o : Oper} {st st2 : St} {rq : Option Req} {δ : Delta} (e : aop3 T o st = some (rq, δ)) (hO : ∀ x ∈ o.op.operands, opd st2 x = opd st x) (H : Same st.heap st2.heap δ.hr) :
  aop3 T o st2 = some (rq, δ) ∧ WIn δ := by
 have nil : δ.hw = [] -> WIn δ := fun h r hr => by simp [h] at hr
 cases hop : o.op <;> rw [hop] at hO <;> simp only [Op.operands] at hO
 case makeMap t rsv =>
  cases rsv with
  | some _ => simp only [aop3, hop] at e; cases e
  | none =>
   simp only [aop3, hop] at e ⊢
   obtain ⟨h1, e⟩ := cond_some e
   simp only [h1, cond_true]
   split at e
   ·rename_i q hq
    split at e
    ·rename_i hfree
     cases e
     refine ⟨?_, fun r hr => by simpa using hr⟩
     simp only [H q (by simp), hfree]
    ·cases e
   ·cases e
 case lookup t x i ok =>
  cases ok with
  | true => simp only [aop3, hop] at e; cases e
  | false =>
   simp only [aop3, hop] at e ⊢
   obtain ⟨h1, e⟩ := cond_some e
   simp only [h1, cond_true]
   rw [hO x (by simp), hO i (by simp)]
   split at e
   ·split at e
    ·rename_i hg
     cases e
     refine ⟨?_, nil rfl⟩
     simp only [H _ (List.mem_singleton.2 rfl), hg]
    ·cases e
   ·cases e
 case mapUpdate t x i v =>
  simp only [aop3, hop] at e ⊢
  obtain ⟨h1, e⟩ := cond_some e
  simp only [h1, cond_true]
  rw [hO x (by simp), hO i (by simp), hO v (by simp)]
  split at e
  ·split at e
   ·rename_i hg
    cases e
    refine ⟨?_, fun r hr => by simpa using hr⟩
    simp only [H _ (List.mem_singleton.2 rfl), hg]
   ·cases e
  ·cases e
 case call c =>
  obtain ⟨callee, args, tys⟩ := c
  cases callee with
  | value => simp only [aop3, hop] at e; cases e
  | invoke => simp only [aop3, hop] at e; cases e
  | builtin b =>
   have ho : opds st2 args.toList = opds st args.toList := opds_congr fun x hx => hO x (by simp only [Call.operands]; simpa using hx)
   cases b <;> simp only [aop3, hop] at e ⊢ <;> try (cases e; done)
   rw [ho]
   split at e
   ·obtain ⟨h1, e⟩ := cond_some e
    simp only [h1, cond_true]
    split at e
    ·rename_i hg
     cases e
     refine ⟨?_, nil rfl⟩
     simp only [H _ (List.mem_singleton.2 rfl), hg]
    ·cases e
   ·cases e
 all_goals (simp only [aop3, hop] at e; cases e)
end Go.Abs
namespace Go.Abs
universe u
open Go.RowKit
section
variable {P : Program} {w0 : World} {fp : FP} {nt : Nat} {β : Nat -> Value} {st : St} {a : Act} {w : World} {T : Tab} {o : Oper} {Q : Exit -> Act -> World -> Prop}
theorem getD_int {xs : List Int} {i : Nat} (hi : i < xs.length) : xs.getD i 0 = xs[i] := by
 rw [List.getD_eq_getElem?_getD, List.getElem?_eq_getElem hi]; rfl
theorem flat_size {d : DT} : ∀ (xs : List d.T), segSize (xs.flatMap (encD d)) = xs.length * d.size := by
 intro xs
 induction xs with
 | nil => simp [segSize]
 | cons x xs ih => rw [List.flatMap_cons, segSize_append, encD_size, List.length_cons, Nat.add_mul, ih]; omega
theorem rowd_owns {d : DT} {e : Nat} {xs : List d.T} {bv : Value} {h : Heap} (H : RegRel h β w bv (.rowd e d xs)) : ∃ l, SegsRel h β w (xs.flatMap (encD d)) l ∧ w.ownsRow 0 e d.size bv xs.length l ∧ ∀ v ∈ l, v.oneCell' = true := by
 have hsz : ∀ {xs : List d.T} {l : List Value}, SegsRel h β w (xs.flatMap (encD d)) l -> l.length = xs.length * d.size := by
  intro xs l hs
  rw [hs.length, flat_size]
 rcases H with ⟨rfl, rfl⟩ | ⟨b, cap, l, tail, rfl, hh, hs, hl, hxc, hm⟩
 ·exact ⟨[], rfl, ⟨by simp, .inl ⟨rfl, rfl⟩⟩, by simp⟩
 ·have hls := hsz hs
  refine ⟨l, hs, ⟨hls, .inr ⟨b, cap, _, rfl, Nat.zero_le _, hh, hxc, hm, by simpa using hl, ?_⟩⟩, hs.one⟩
  simp only [<- hls]
  exact List.take_left
theorem append2_rel (hT : TabOk P T) (R : Rel P w0 fp nt β st a w) {dst : Option Nat} (hd : dstOk nt dst = true) {t ty : Nat} {s x : AV} {u y : Value} (hs : AVRel st.heap β w s u) (hy : AVRel st.heap β w x y)
  {rq : Option Req} {δ : Delta} (e : append2 T st.heap dst t s x = some (rq, δ)) (hr : ∀ r, rq = some r -> r.p) :
  ∃ v w', (Builtin.append_ #[t, t] ty #[u, y]).run P w = .ok v w' ∧ ∃ β', Rel P w0 fp nt β' (st.app dst δ) (a.put dst v) w' := by
 unfold append2 at e
 split at e
 ·rename_i q el sz by' z h1
  have ht := tdSlice (hT _ _ h1)
  split at e
  ·rename_i te d h2 h3 hfree
   have h40 := cond_some e
   have h4 := h40.1
   replace e := h40.2
   clear h40
   simp only [Bool.and_eq_true] at h4
   obtain ⟨⟨hsz, hpos⟩, hby⟩ := h4
   have hsz := nbeq.1 hsz
   have hpos := nblt.1 hpos
   have hby := nblt.1 hby
   obtain ⟨i, zv, hi, his, hib, hz, hzs⟩ := datInfo hT h2
   split at e
   ·rename_i ys rs hys
    obtain ⟨A, c, lm, rfl, hnil, hcells, hsegs⟩ := dataOf_rel R hy hys
    have hlm : lm.length = ys.length * te.size := by
     rw [hsegs.length, hsz, flat_size]
    have core : ∀ (n : Nat) (l : List Value) (u : Value), w.ownsRow 0 el te.size u n l -> (∀ v ∈ l, v.oneCell' = true) -> okBytes (n + ys.length) te.bytes ->
      ∃ v w', (Builtin.append_ #[t, t] ty #[u, .slice A ys.length c]).run P w = .ok v w' ∧ w'.ownsRow 0 el te.size v (n + ys.length) (l ++ lm) ∧ w.grownBy w' u.ownBlock ∧ (v.ownBlock = u.ownBlock ∨ v.ownBlock = some w.heap.size) := by
     intro n l u hown h1' hb
     have hm : n + ys.length ≤ maxLen := by
      unfold okBytes at hb
      have : (n + ys.length) + (n + ys.length) / 4 + 192 ≤ ((n + ys.length) + (n + ys.length) / 4 + 192) * te.bytes := Nat.le_mul_of_pos_right _ hby
      simp only [maxLen]
      omega
     cases A with
     | none =>
      have h0 := hnil rfl
      subst h0
      have hlm0 : lm = [] := List.eq_nil_of_length_eq_zero (by simpa using hlm)
      subst hlm0
      obtain ⟨A0, cap, rfl, hc⟩ : ∃ A0 cap, u = .slice A0 n cap ∧ n ≤ cap := by
       rcases hown.2 with ⟨rfl, h0⟩ | ⟨g, cap, cur, rfl, _, _, h0, _⟩
       ·exact ⟨none, 0, by rw [h0], by omega⟩
       ·exact ⟨_, cap, rfl, h0⟩
      exact ⟨_, w, run_append_none ht hi A0 n cap c hc, by simpa using hown, ⟨rfl, rfl, rfl, Nat.le_refl _, fun _ _ _ => rfl⟩, .inl rfl⟩
     | some A =>
      obtain ⟨v, w', hrun, h2', h3, _, h5⟩ := append_own_far (P := P) w 0 t ty el i zv te.size te.bytes ht hi hz his hib hzs hpos u n l hown A ys.length c lm hlm (hcells A rfl) hsegs.one hm hb (Nat.zero_le _)
      exact ⟨v, w', hrun, h2', h3, h5⟩
    have made : ∀ (xs : List d.T) (l : List Value) (row : Option Nat) (r : Option Nat) (v : Value) (w' : World), SegsRel st.heap β w (xs.flatMap (encD d)) l -> (∀ u ∈ l, u.oneCell' = true) -> w'.ownsRow 0 el te.size v (xs.length + ys.length) (l ++ lm) -> w.grownBy w' row ->
      (v.ownBlock = row ∨ v.ownBlock = some w.heap.size) -> (∀ b, row = some b -> ∃ r0 g, r = some r0 ∧ st.heap r0 = some g ∧ g.live ∧ Blk (β r0) b) -> (∀ r0, r = some r0 -> ∃ g, st.heap r0 = some g) ->
      Rel P w0 fp nt (upd β q v) { env := putEnv st.env (some q) (.c (.full q)), heap := upd (kill st.heap r) q (some (.rowd el d (xs ++ ys))) } (a.put (some q) v) w' := by
     intro xs l row r v w' hxs h1' hown' hg hat hrow hgone
     have hblk : ∀ b, Blk v b -> v.ownBlock = some b := by
      intro b hb
      rcases hown'.2 with ⟨rfl, _⟩ | ⟨g, cap, cur, rfl, _⟩
      ·simp at hb
      ·simp only [Blk_slice] at hb; subst hb; rfl
     have hsl : v.oneCell' = true := by
      rcases hown'.2 with ⟨rfl, _⟩ | ⟨g, cap, cur, rfl, _⟩ <;> rfl
     refine R.appendedG hd hfree (fun h' M => ?_) hblk ⟨rfl, hsl⟩ hg hat hrow hgone
     have hall := (hxs.append hsegs).mono M
     rw [<- List.flatMap_append] at hall
     rcases hown'.2 with ⟨rfl, hn⟩ | ⟨g, cap, cur, rfl, _, hh, hc, hm, hcs, htk⟩
     ·exact .inl ⟨rfl, List.eq_nil_of_length_eq_zero (by simpa using hn)⟩
     ·have hll : (l ++ lm).length = (xs.length + ys.length) * te.size := hown'.1
      refine .inr ⟨g, cap, l ++ lm, cur.toList.drop ((xs.length + ys.length) * te.size), by rw [List.length_append], ?_, hall, ?_, by rw [List.length_append]; exact hc, hm⟩
      ·rw [hh]
       congr 2
       apply Array.ext'
       simp only []
       rw [<- htk, List.take_append_drop]
      ·have e1 : (cur.toList.drop ((xs.length + ys.length) * te.size)).length = cap * te.size - (xs.length + ys.length) * te.size := by
        rw [List.length_drop]; congr 1
       rw [hll, e1, <- hsz]
       have := Nat.mul_le_mul_right te.size hc
       omega
    split at e
    ·rename_i r
     split at e
     ·rename_i e' d' xs0 hg
      have h50 := cond_some e
      obtain rfl := nbeq.1 h50.1
      replace e := h50.2
      clear h50
      split at e
      ·rename_i xs hxs
       cases e
       obtain ⟨e0, hxs⟩ := asDT_spec hxs
       subst e0; subst hxs
       have hin := hr _ rfl
       simp only [req] at hin
       simp only [AVRel, CVRel] at hs
       obtain ⟨g', hg', hp⟩ := hs
       rw [hg] at hg'
       cases hg'
       obtain ⟨rfl, _⟩ := hp
       obtain ⟨l, hls, hown, hone⟩ := rowd_owns (R.heap r _ hg)
       rw [<- hsz] at hown
       obtain ⟨v, w', hrun, g3, g4, g5⟩ := core _ l _ hown hone hin
       refine ⟨v, w', hrun, _, made _ l _ (some r) v w' hls hone g3 g4 g5 (fun b hb' => ⟨r, _, rfl, hg, trivial, ?_⟩) (fun r0 h => by cases h; exact ⟨_, hg⟩)⟩
       rcases hown.2 with ⟨h6, _⟩ | ⟨g, cap, cur, h6, _⟩ <;> rw [h6] at hb' ⊢
       ·cases hb'
       ·cases hb'; simp
      ·cases e
     ·cases e
    ·rename_i v0
     obtain ⟨h5, h6⟩ := cond_some e
     cases h6
     obtain rfl := isNilS_spec h5
     have hin := hr _ rfl
     simp only [req] at hin
     simp only [AVRel, CVRel] at hs
     subst hs
     have hown : w.ownsRow 0 el te.size (.slice none 0 0) 0 [] := ⟨by simp, .inl ⟨rfl, rfl⟩⟩
     obtain ⟨v, w', hrun, g3, g4, g5⟩ := core 0 [] _ hown (by simp) (by simpa using hin)
     have := made [] [] _ none v w' rfl (by simp) g3 g4 g5 (fun b hb' => by cases hb') (fun r0 h => by cases h)
     exact ⟨v, w', hrun, _, this⟩
    ·cases e
   ·cases e
  ·cases e
 ·cases e
theorem copy_rel (hT : TabOk P T) (R : Rel P w0 fp nt β st a w) {dst : Option Nat} (hd : dstOk nt dst = true) {t t' ty e e' sz by' : Nat} {z : List CV} {r : Nat} {k k' : IntKind} {xs ys : List Int} {sz2 by2 : Nat} {z2 : List CV} {x : AV} {y : Value} {rs hr : List Nat}
  (h1 : T.get t = some ⟨.slice e, sz, by', z⟩) (h2 : T.get e = some ⟨.int k', sz2, by2, z2⟩) (hg : st.heap r = some (.row e' k xs)) (hy : AVRel st.heap β w x y)
  (hys : (bif isNilSlice x then some (k, ([] : List Int), ([] : List Nat)) else sliceInts st.heap x) = some (k, ys, rs)) :
  ∃ w', (Builtin.copy_ #[t, t'] ty #[β r, y]).run P w = .ok (.int .i64 (min ys.length xs.length : Nat)) w' ∧ ∃ β', Rel P w0 fp nt β' (st.app dst ⟨.c (.int .i64 (min ys.length xs.length : Nat)), [(r, .row e' k (ys.take (min ys.length xs.length) ++ xs.drop (min ys.length xs.length)))], hr⟩) (a.put dst (.int .i64 (min ys.length xs.length : Nat))) w' := by
 have hu := tdSlice (hT _ _ h1)
 obtain ⟨i, zv, hi, hsz, hby, hz, hzs⟩ := intZero (hT _ _ h2)
 have hs1 : (P.info? e).map (·.size) = some 1 := by rw [hi]; simp [hsz]
 obtain ⟨A, c, rfl, hnil, hcells⟩ : ∃ A c, y = .slice A ys.length c ∧ (A = none -> ys = []) ∧ ∀ A', A = some A' -> ∀ j v, (intsV k ys)[j]? = some v -> w.cell? (A'.add j) = some v := by
  cases hn : isNilSlice x with
  | true =>
   rw [hn] at hys
   cases hys
   unfold isNilSlice at hn
   split at hn
   ·simp only [AVRel, CVRel] at hy
    subst hy
    exact ⟨none, _, rfl, fun _ => rfl, fun A' h => by cases h⟩
   ·cases hn
  | false =>
   rw [hn] at hys
   simp only [cond_false] at hys
   exact sliceInts_rel R hy hys
 have goi : ∀ n : Nat, goInt n = Value.int .i64 (n : Int) := fun n => rfl
 have same : ∀ (v : Value) (w' : World), w' = w -> ys.take (min ys.length xs.length) ++ xs.drop (min ys.length xs.length) = xs -> v = .int .i64 (min ys.length xs.length : Nat) -> ∃ β', Rel P w0 fp nt β' (st.app dst ⟨.c (.int .i64 (min ys.length xs.length : Nat)), [(r, .row e' k (ys.take (min ys.length xs.length) ++ xs.drop (min ys.length xs.length)))], hr⟩) (a.put dst v) w' := by
  intro v w' hw he hv
  subst hw
  rw [he, hv]
  have hh : heapPut st.heap [(r, .row e' k xs)] = st.heap := by
   simp only [heapPut]
   funext q
   rw [upd_at]
   split
   ·rename_i h; rw [h, hg]
   ·rfl
  refine ⟨β, ?_⟩
  have := R.pure (dst := dst) (av := .c (.int .i64 (min ys.length xs.length : Nat))) (v := .int .i64 (min ys.length xs.length : Nat)) (hr := []) hd (by simp only [AVRel, CVRel])
  simp only [St.app, hh] at this ⊢
  exact this
 rcases R.heap r _ hg with ⟨hn, he⟩ | ⟨b, cap, tail, hbv, hh, hcp, hm⟩
 ·rw [hn]
  subst he
  refine ⟨w, ?_, same _ w rfl (by simp) rfl⟩
  rw [run_copy_none w t t' ty e none A 0 0 ys.length c hu hs1 (by simp)]
  show Result.ok (Value.int .i64 0) w = _
  simp
 ·by_cases h0 : min ys.length xs.length = 0
  ·refine ⟨w, ?_, same _ w rfl (by rw [h0]; simp) rfl⟩
   rw [hbv, run_copy_none w t t' ty e _ A xs.length cap ys.length c hu hs1 (by simpa using h0), h0]
   rfl
  ·cases A with
   | none => have := hnil rfl; subst this; simp at h0
   | some A =>
    have hcl : ((intsV k ys).take (min ys.length xs.length)).length = Nat.min ys.length xs.length := by
     rw [List.length_take, intsV_length]
     show min (min ys.length xs.length) ys.length = min ys.length xs.length
     omega
    have hrun := run_copy_row (P := P) w t t' ty e b 0 xs.length cap A ys.length c (intsV k xs ++ tail).toArray e' ((intsV k ys).take (min ys.length xs.length)) hu hs1 hh hcl (fun j v hv => hcells A rfl j v (by
     rw [List.getElem?_take] at hv
     split at hv
     ·exact hv
     ·cases hv)) (by rw [hcl]; simp; show min ys.length xs.length ≤ _; omega) (by intro v hv; have := List.mem_of_mem_take hv; simp only [intsV, List.mem_map] at this; obtain ⟨n, _, rfl⟩ := this; rfl)
    have hcl' : ((intsV k ys).take (min ys.length xs.length)).length = min ys.length xs.length := hcl
    rw [hcl'] at hrun
    rw [hbv]
    refine ⟨_, by rw [hrun, goi], β, ?_⟩
    have hlen : (ys.take (min ys.length xs.length) ++ xs.drop (min ys.length xs.length)).length = xs.length := by
     rw [List.length_append, List.length_take, List.length_drop]; omega
    have hR := R.write (g' := .row e' k (ys.take (min ys.length xs.length) ++ xs.drop (min ys.length xs.length))) (dst := dst) hg trivial (by rw [hbv]; rfl) ⟨rfl, rfl, hlen⟩ hd
     (cs := ((intsV k xs ++ tail).take 0 ++ (intsV k ys).take (min ys.length xs.length) ++ (intsV k xs ++ tail).drop (0 + min ys.length xs.length)).toArray) (fun h' M => by
      refine .inr ⟨b, cap, tail, by rw [hlen]; exact hbv, ?_, by rw [hlen]; exact hcp, hm⟩
      rw [setRow_block hh]
      congr 3
      simp only [List.take_zero, List.nil_append, Nat.zero_add]
      rw [List.drop_append_of_le_length (by simp; omega)]
      simp only [intsV, List.map_append, List.map_take, List.map_drop, List.append_assoc])
    have hR2 : Rel P w0 fp nt β { env := putEnv st.env dst (.c (.int .i64 (min ys.length xs.length : Nat))), heap := upd st.heap r (some (.row e' k (ys.take (min ys.length xs.length) ++ xs.drop (min ys.length xs.length)))) } (a.put dst (.int .i64 (min ys.length xs.length : Nat)))
      (w.setRow b ((intsV k xs ++ tail).take 0 ++ (intsV k ys).take (min ys.length xs.length) ++ (intsV k xs ++ tail).drop (0 + min ys.length xs.length)).toArray) := by
     have hsize : ∀ v, (a.put dst v).tmps.size = a.tmps.size := fun v => by cases dst <;> simp [Act.put]
     have hdd : ∀ d, dst = some d -> d < a.tmps.size := fun d e => by subst e; rw [R.size]; simpa [dstOk, Nat.blt_eq] using hd
     refine ⟨by cases dst <;> simp [Act.put, R.defers], by rw [hsize]; exact R.size, R.small, fun t av ht => ?_, hR.heap, hR.sep, hR.lo, hR.hid, hR.hb, hR.os, hR.tape, hR.output, hR.grow, hR.keep, hR.anc, hR.ancN⟩
     have h7 := hR.env
     rw [getD_put hdd]
     cases dst with
     | none =>
      rw [if_neg (by simp)]
      have := h7 t av (by simpa [putEnv] using ht)
      rwa [getD_put hdd, if_neg (by simp)] at this
     | some d =>
      by_cases ed : d = t
      ·subst ed
       simp only [putEnv, upd_same, Option.some.injEq] at ht
       subst ht
       rw [if_pos rfl]
       simp only [AVRel, CVRel]
      ·rw [if_neg (by simpa using ed)]
       have h8 := h7 t av (by simp only [putEnv] at ht ⊢; rw [upd_ne _ _ (Ne.symm ed)] at ht ⊢; exact ht)
       rwa [getD_put hdd, if_neg (by simpa using ed)] at h8
    exact hR2
theorem aop2_sound (hT : TabOk P T) (R : Rel P w0 fp nt β st a w) (hd : dstOk nt o.dst = true) {rq : Option Req} {δ : Delta} (e : aop2 T o st = some (rq, δ)) (hr : ∀ r, rq = some r -> r.p) :
  o.wp P a w (Post P w0 fp nt (st.app o.dst δ)) Q := by
 have fin : ∀ (v : Value), (execOp a.eval o).run P w = .ok (.value v) w -> δ.hw = [] -> AVRel st.heap β w δ.av v -> o.wp P a w (Post P w0 fp nt (st.app o.dst δ)) Q := by
  intro v h1 h2 h3
  obtain ⟨av, hw, hr'⟩ := δ
  simp only at h2
  subst h2
  exact fin_pure R hd h1 h3
 have fin' : ∀ (v : Value) (w' : World), (execOp a.eval o).run P w = .ok (.value v) w' -> (∃ β', Rel P w0 fp nt β' (st.app o.dst δ) (a.put o.dst v) w') -> o.wp P a w (Post P w0 fp nt (st.app o.dst δ)) Q := fun v w' h1 h2 => wp_val h1 h2
 cases hop : o.op
 case makeFunc f first caps =>
  simp only [aop2, hop] at e
  split at e
  ·rename_i f' rs h1 h2
   cases e
   obtain ⟨h3, h4⟩ := capRegs_rel R h2
   have hf : first = #[] := by apply Array.toList_inj.1; simpa using h1
   subst hf
   refine fin (.func (.func f') #[] (caps.map a.eval)) (by simp [execOp, hop, Instr.makeFunc]) rfl ?_
   simp only [AVRel, CVRel]
   refine ⟨caps.toList.map a.eval, ?_, by simp [h3], h4⟩
   congr 1
   apply Array.toList_inj.1
   simp
  ·cases e
 case convert s d x =>
  simp only [aop2, hop] at e
  cases h1 : opd st x with
  | none => rw [h1] at e; cases e
  | some av =>
   rw [h1] at e
   obtain ⟨v, w', h2, h3⟩ := convert2_rel hT R hd (opd_rel R h1) e
   exact fin' v w' (by simp [execOp, hop, Sem.run_bind, h2]) h3
 case buildSlice t n ps =>
  obtain ⟨v, w', h1, h2⟩ := buildDat_rel hT R hd hop e
  exact fin' v w' (by simp [execOp, hop, Sem.run_bind, h1]) h2
 case sliceToArrayPointer d x =>
  simp only [aop2, hop] at e
  split at e
  ·rename_i n el _ _ _ k xs m h1 h2
   have ht := tdArray (hT _ _ h1)
   obtain ⟨h3, h4⟩ := cond_some e
   cases h4
   have hn := nblt.1 h3
   have hp := hr _ rfl
   simp only [req] at hp
   have hx := opd_rel R h2
   simp only [AVRel, CVRel] at hx
   generalize hu : a.eval x = u at hx
   cases hx with
   | fz _ _ _ A c hnl hc h0 hat =>
    cases A with
    | none =>
     have h9 := (h0 rfl).1
     have h10 : List.length xs = 0 := by rw [h9]; rfl
     have hp := Int.ofNat_le.1 hp
     omega
    | some A =>
     have hxl : n ≤ List.length (α := Int) xs := Nat.le_trans (Int.ofNat_le.1 hp) hnl
     refine fin (.pointer (some A)) ?_ rfl ?_
     ·simp only [execOp, hop, hu, Instr.arrayAt, Sem.run_bind, run_underlying ht, Result.andThen_ok]
      rw [if_neg (by have := Int.ofNat_le.1 hp; omega)]
      rfl
     ·simp only [AVRel, CVRel, offOf]
      refine ⟨A, by rw [add_zero'], ?_, by simp [segSize, CV.size], fun i lim h => by cases h⟩
      have hcell : ∀ i, i < n -> ucell w (A.add i) = some (.int k (List.getD (α := Int) xs i 0)) ∧ ¬ Own st.heap β A.block := by
       intro i hi
       have hi' : i < List.length (α := Int) xs := by omega
       have := hat A rfl i hi'
       have H : FzAtI w (Own st.heap β) (FzV w (Own st.heap β)) [.int k (List.getD (α := Int) xs i 0)] (A.add i) := by
        rw [getD_int (xs := xs) hi']
        have e2 : i * (DT.int k).size = i := Nat.mul_one i
        rw [e2] at this
        exact this
       cases H with
       | one c cs a' v hc ho hv hr' =>
        cases hv
        exact ⟨hc, by rw [add_blk] at ho; exact ho⟩
      exact .ints k n _ [] A (fun i hi => (hcell i hi).1) (fun h => (hcell 0 h).2) (.nil _)
  ·cases e
 case call c =>
  obtain ⟨callee, args, tys⟩ := c
  cases callee with
  | value => simp only [aop2, hop] at e; cases e
  | invoke => simp only [aop2, hop] at e; cases e
  | builtin b =>
   simp only [aop2, hop] at e
   split at e
   ·rename_i av x h1
    split at e
    ·rename_i t t2 r h2
     split at e
     ·rename_i el _ _ _ e' k xs h3 hg
      split at e
      ·rename_i k' _ _ _ h4
       split at e
       ·rename_i k2 ys rs hys
        obtain ⟨h5, h6⟩ := cond_some e
        cases h6
        simp only [Bool.and_eq_true] at h5
        obtain rfl := beqK.1 h5.1
        have hx := opds_rel R h1
        simp only [AVsRel] at hx
        obtain ⟨u, r', h7, hu, u2, r2, rfl, hu2, rfl⟩ := hx
        simp only [AVRel, CVRel] at hu
        obtain ⟨g, hg', hp⟩ := hu
        rw [hg] at hg'
        cases hg'
        obtain ⟨rfl, _⟩ := hp
        have ha : args.map a.eval = #[β r, u2] := by
         apply Array.toList_inj.1
         simpa using h7
        have ht : tys = #[t, t2] := by
         apply Array.toList_inj.1
         simpa using h2
        obtain ⟨w', h8, h9⟩ := copy_rel (t' := t2) (ty := o.type) (hr := r :: rs) hT R hd h3 h4 hg hu2 hys
        exact fin' _ w' (by simp [execOp, hop, resolve, invoke, builtin, Sem.run_bind, ha, ht, h8]) h9
       ·cases e
      ·cases e
     ·cases e
    ·cases e
   ·rename_i av1 av2 h1
    split at e
    ·rename_i t t' h2
     obtain ⟨h8, e'⟩ := cond_some e
     obtain rfl := nbeq.1 h8
     have hx := opds_rel R h1
     simp only [AVsRel] at hx
     obtain ⟨u, r, h3, hu, u2, r2, rfl, hu2, rfl⟩ := hx
     obtain ⟨v, w', h5, h6⟩ := append2_rel (ty := o.type) hT R hd hu hu2 e' hr
     have ha : args.map a.eval = #[u, u2] := by
      apply Array.toList_inj.1
      simpa using h3
     have ht : tys = #[t, t] := by
      apply Array.toList_inj.1
      simpa using h2
     refine fin' v w' ?_ h6
     simp [execOp, hop, resolve, invoke, builtin, Sem.run_bind, ha, ht, h5]
    ·cases e
   ·rename_i av h1
    have hx := opds_rel R h1
    simp only [AVsRel] at hx
    obtain ⟨u, r, h3, hu, rfl⟩ := hx
    have ha : args.map a.eval = #[u] := by
     apply Array.toList_inj.1
     simpa using h3
    split at e
    ·rename_i t h10
     have ht : tys = #[t] := by
      apply Array.toList_inj.1
      simpa using h10
     split at e
     ·rename_i el _ _ _ h11
      have hut := tdSlice (hT _ _ h11)
      have run : ∀ A n c, u = .slice A n c -> (execOp a.eval o).run P w = .ok (.value (.int .i64 (n : Int))) w := by
       intro A n c hu
       subst hu
       simp [execOp, hop, resolve, invoke, builtin, Sem.run_bind, ha, ht, Builtin.len_, run_underlying hut, goInt]
      split at e
      ·rename_i q
       split at e
       ·rename_i e' d' xs hr'
        cases e
        simp only [AVRel, CVRel] at hu
        obtain ⟨g, hg, hp⟩ := hu
        rw [hr'] at hg
        cases hg
        obtain ⟨rfl, _⟩ := hp
        rcases R.heap _ _ hr' with ⟨hn, he⟩ | ⟨b, cap, l, tail, hbv, _⟩
        ·subst he
         exact fin _ (run none 0 0 hn) rfl (by simp only [AVRel, CVRel]; rfl)
        ·exact fin _ (run _ _ _ hbv) rfl (by simp only [AVRel, CVRel])
       ·cases e
      ·rename_i d' xs n
       cases e
       simp only [AVRel, CVRel] at hu
       cases hu with
       | fz _ _ _ A c hn hc h0 hat => exact fin _ (run _ _ _ rfl) rfl (by simp only [AVRel, CVRel])
      ·rename_i n c
       cases e
       simp only [AVRel, CVRel] at hu
       exact fin _ (run _ _ _ hu) rfl (by simp only [AVRel, CVRel])
      ·cases e
     ·cases e
    ·cases e
   ·cases e
 all_goals (simp only [aop2, hop] at e; cases e)
end
theorem frzSl_dep {h h' : Heap} {t : DT} {c : CV} {xs : List t.T} {gs : List Nat} (e : frzSl h t c = some (xs, gs)) (H : ∀ r ∈ gs, h' r = h r) : frzSl h' t c = some (xs, gs) := by
 unfold frzSl at e ⊢
 split at e
 ·exact e
 ·exact e
 ·rename_i r
  split at e
  ·rename_i hr
   split at e
   ·rename_i hz; cases e; simp only [H r (by simp), hr, hz]
   ·cases e
  ·rename_i hr
   split at e
   ·rename_i hz; cases e; simp only [H r (by simp), hr, hz]
   ·cases e
  ·rename_i hr
   split at e
   ·rename_i hz; cases e; simp only [H r (by simp), hr, hz]
   ·cases e
  ·cases e
 ·rename_i r o n
  split at e
  ·rename_i hr
   split at e
   ·rename_i hz; cases e; simp only [H r (by simp), hr, hz]
   ·cases e
  ·rename_i hr
   have h70 := cond_some e
   have h71 := h70.1
   replace e := h70.2
   clear h70
   split at e
   ·rename_i hx
    split at e
    ·rename_i hz; cases e; simp only [H r (by simp), hr, h71, hx, hz, cond_true]
    ·cases e
   ·cases e
  ·cases e
 ·rename_i r base lo n lim
  split at e
  ·rename_i hr
   split at e
   ·rename_i hd
    obtain ⟨hl, e⟩ := cond_some e
    split at e
    ·rename_i hz; cases e; simp only [H r (by simp), hr, hd, hl, hz, cond_true]
    ·cases e
   ·cases e
  ·cases e
 ·cases e
theorem frzD_dep {h h' : Heap} : ∀ {t : DT} {cs rest : List CV} {x : t.T} {gs : List Nat}, frzD h t cs = some (x, rest, gs) -> (∀ r ∈ gs, h' r = h r) -> frzD h' t cs = some (x, rest, gs) := by
 intro t
 induction t with
 | sl t ih =>
  intro cs rest x gs e H
  simp only [frzD] at e ⊢
  split at e
  ·split at e
   ·rename_i hf; cases e; simp only [frzSl_dep hf H]
   ·cases e
  ·cases e
 | item =>
  intro cs rest x gs e H
  simp only [frzD] at e ⊢
  split at e
  ·split at e
   ·rename_i h1 h2
    cases e
    simp only [frzSl_dep h1 (fun r hr => H r (by simp [hr])), frzSl_dep h2 (fun r hr => H r (by simp [hr]))]
   ·cases e
  ·cases e
 | pair a b iha ihb =>
  intro cs rest x gs e H
  simp only [frzD] at e ⊢
  split at e
  ·rename_i h1
   split at e
   ·rename_i h2
    cases e
    simp only [iha h1 (fun r hr => H r (by simp [hr])), ihb h2 (fun r hr => H r (by simp [hr]))]
   ·cases e
  ·cases e
 | _ => intro cs rest x gs e H; exact e
theorem seqDat_dep {h h' : Heap} {d : DT} : ∀ {l : List (Nat × AV)} {i : Nat} {xs : List d.T} {gs : List Nat}, seqDat h d i l = some (xs, gs) -> (∀ r ∈ gs, h' r = h r) -> seqDat h' d i l = some (xs, gs) := by
 intro l
 induction l with
 | nil => intro i xs gs e _; exact e
 | cons p l ih =>
  obtain ⟨j, av⟩ := p
  intro i xs gs e H
  simp only [seqDat] at e ⊢
  have e0 := cond_some e
  rw [e0.1]
  replace e := e0.2
  clear e0
  simp only [cond_true]
  split at e
  ·split at e
   ·rename_i hf
    split at e
    ·rename_i hs
     cases e
     simp only [frzD_dep hf (fun r hr => H r (by simp [hr])), ih hs (fun r hr => H r (by simp [hr]))]
    ·cases e
   ·cases e
  ·cases e
theorem dataOf_dep {h h' : Heap} {d : DT} {x : AV} {xs : List d.T} {rs : List Nat} (e : dataOf h d x = some (xs, rs)) (H : ∀ r ∈ rs, h' r = h r) : dataOf h' d x = some (xs, rs) := by
 unfold dataOf at e ⊢
 split at e
 ·rename_i r
  split at e
  ·rename_i hr
   split at e
   ·rename_i hz; cases e; simp only [H r (by simp), hr, hz]
   ·cases e
  ·cases e
 ·exact e
 ·exact e
 ·cases e
theorem sliceInts_dep {h h' : Heap} {x : AV} {k : IntKind} {xs : List Int} {rs : List Nat} (e : sliceInts h x = some (k, xs, rs)) (H : ∀ r ∈ rs, h' r = h r) : sliceInts h' x = some (k, xs, rs) := by
 have h1 := sliceInts_in e
 subst h1
 rw [sliceInts_congr (h := h) (h' := h') (fun r hr => H r hr)]
 exact e
theorem capRegs_dep {st st2 : St} : ∀ {xs : List Operand} {rs : List Nat}, capRegs st xs = some rs -> (∀ x ∈ xs, opd st2 x = opd st x) -> (∀ r ∈ rs, st2.heap r = st.heap r) -> capRegs st2 xs = some rs := by
 intro xs
 induction xs with
 | nil => intro rs e _ _; exact e
 | cons x xs ih =>
  intro rs e hO H
  simp only [capRegs] at e ⊢
  split at e
  ·rename_i q base room l h1 h2
   obtain ⟨h3, h4⟩ := cond_some e
   cases h4
   have hc : cellsB st2.heap q = cellsB st.heap q := by simp only [cellsB]; rw [H q (by simp)]
   simp only [hO x (by simp), h1, ih h2 (fun y hy => hO y (by simp [hy])) (fun r hr => H r (by simp [hr])), hc, h3, cond_true]
  ·cases e
theorem aop2_dep {T : Tab} {o : Oper} {st st2 : St} {rq : Option Req} {δ : Delta} (e : aop2 T o st = some (rq, δ)) (hO : ∀ x ∈ o.op.operands, opd st2 x = opd st x) (H : Same st.heap st2.heap δ.hr) :
  aop2 T o st2 = some (rq, δ) ∧ WIn δ := by
 have nil : δ.hw = [] -> WIn δ := fun h r hr => by simp [h] at hr
 cases hop : o.op <;> rw [hop] at hO <;> simp only [Op.operands] at hO <;> simp only [aop2, hop] at e ⊢ <;> try (cases e; done)
 case makeFunc f first caps =>
  split at e
  ·rename_i f' rs h1 h2
   cases e
   refine ⟨?_, nil rfl⟩
   rw [capRegs_dep h2 (fun x hx => hO x (by simp at hx ⊢; exact .inr hx)) (fun r hr => H r hr)]
   simp only [h1]
  ·cases e
 case convert s d x =>
  rw [hO x (by simp)]
  split at e
  ·rename_i av _
   unfold convert2 at e ⊢
   split at e
   ·split at e
    ·obtain ⟨h1, h2⟩ := cond_some e; cases h2; simp only [h1, cond_true]; exact ⟨trivial, nil rfl⟩
    ·cases e
   ·obtain ⟨h1, e2⟩ := cond_some e
    simp only [h1, cond_true]
    split at e2
    ·rename_i xs rs hb
     cases e2
     refine ⟨?_, nil rfl⟩
     have : bytesOf st2.heap av = some (xs, rs) := by
      unfold bytesOf at hb ⊢
      cases hn : isNilSlice av with
      | true => rw [hn] at hb; exact hb
      | false =>
       rw [hn] at hb
       simp only [cond_false] at hb ⊢
       split at hb
       ·rename_i hs
        cases hb
        rw [sliceInts_dep hs (fun r hr => H r hr)]
       ·cases hb
     rw [this]
    ·cases e2
   ·have e0 := cond_some e
    rw [e0.1]
    replace e := e0.2
    clear e0
    simp only [cond_true]
    split at e
    ·split at e
     ·rename_i hr
      cases e
      refine ⟨?_, fun r hr => by simpa using hr⟩
      rw [H _ (by simp), hr]
     ·cases e
    ·cases e
   ·cases e
  ·cases e
 case buildSlice t n ps =>
  rw [partsAV_congr (by simpa using hO)]
  split at e
  ·rename_i q _ _ _ _ _ _ _ _
   split at e
   ·rename_i te d h3 h4 hfree
    split at e
    ·rename_i xs gs h5
     have e0 := cond_some e
     have h6 := e0.1
     replace e := e0.2
     clear e0
     cases e
     refine ⟨?_, fun r hr => ?_⟩
     ·simp only [H q (by simp), h3, h4, hfree, seqDat_dep h5 (fun r hr => H r (by simp [hr])), h6, cond_true]
     ·simp only [List.map_append, List.map_map, List.mem_append, List.mem_map, Function.comp, List.map_cons, List.map_nil, List.mem_singleton] at hr
      rcases hr with ⟨r', hr', rfl⟩ | rfl
      ·simp [hr']
      ·simp
    ·cases e
   ·cases e
  ·cases e
 case sliceToArrayPointer d x =>
  rw [hO x (by simp)]
  refine ⟨e, ?_⟩
  split at e
  ·obtain ⟨_, h2⟩ := cond_some e; cases h2; exact nil rfl
  ·cases e
 case call c =>
  obtain ⟨callee, args, tys⟩ := c
  cases callee with
  | value => cases e
  | invoke => cases e
  | builtin b =>
   simp only [] at e ⊢
   have ho : opds st2 args.toList = opds st args.toList := opds_congr fun x hx => hO x (by simp only [Call.operands]; simpa using hx)
   rw [ho]
   split at e
   ·rename_i av x h1
    split at e
    ·rename_i r _
     split at e
     ·rename_i _ _ _ _ _ k0 _ _ hg
      split at e
      ·rename_i h4
       split at e
       ·rename_i k2 ys rs hys
        obtain ⟨h5, h6⟩ := cond_some e
        cases h6
        refine ⟨?_, fun r hr => by simp at hr ⊢; exact .inl hr⟩
        have hys' : (bif isNilSlice x then some (k0, ([] : List Int), ([] : List Nat)) else sliceInts st2.heap x) = some (k2, ys, rs) := by
         cases hn : isNilSlice x with
         | true => rw [hn] at hys; exact hys
         | false => rw [hn] at hys; exact sliceInts_dep hys (fun r hr => H r (by simp [hr]))
        rw [H r (by simp), hg]
        simp only [h4, hys', h5, cond_true, *]
       ·cases e
      ·cases e
     ·cases e
    ·cases e
   ·rename_i s x h1
    split at e
    ·rename_i t t' h2
     obtain ⟨h8, e⟩ := cond_some e
     simp only [h8, cond_true]
     unfold append2 at e ⊢
     split at e
     ·rename_i q _ _ _ _ _ _
      split at e
      ·rename_i te d h3 h4 hfree
       have e0 := cond_some e
       have h6 := e0.1
       replace e := e0.2
       clear e0
       split at e
       ·rename_i ys rs hys
        split at e
        ·split at e
         ·rename_i _ _ _ _ hr
          have e0 := cond_some e
          have h7 := e0.1
          replace e := e0.2
          clear e0
          split at e
          ·rename_i hz
           cases e
           refine ⟨?_, fun r hr => by simp at hr ⊢; rcases hr with h | h <;> simp [h]⟩
           simp only [H q (by simp), h3, h4, hfree, h6, cond_true, dataOf_dep hys (fun r hr => H r (by simp [hr]))]
           rw [H _ (List.mem_cons_of_mem _ (List.mem_cons_self ..)), hr]
           simp only [h7, cond_true, hz]
          ·cases e
         ·cases e
        ·obtain ⟨h7, h9⟩ := cond_some e
         cases h9
         refine ⟨?_, fun r hr => by simp at hr ⊢; exact .inl hr⟩
         simp only [H q (by simp), h3, h4, hfree, h6, cond_true, dataOf_dep hys (fun r hr => H r (by simp [hr])), h7]
        ·cases e
       ·cases e
      ·cases e
     ·cases e
    ·cases e
   ·rename_i av h1
    split at e
    ·split at e
     ·split at e
      ·split at e
       ·rename_i hr
        cases e
        exact ⟨by simp only [H _ (List.mem_singleton.2 rfl), hr, *], nil rfl⟩
       ·cases e
      ·cases e; exact ⟨rfl, nil rfl⟩
      ·cases e; exact ⟨rfl, nil rfl⟩
      ·cases e
     ·cases e
    ·cases e
   ·cases e
section
variable {P : Program} {w0 : World} {fp : FP} {nt : Nat} {β : Nat -> Value} {st : St} {a : Act} {w : World} {T : Tab} {o : Oper} {Q : Exit -> Act -> World -> Prop}
theorem aopB_sound (hT : TabOk P T) (hdep : 4 ≤ P.depth) (R : Rel P w0 fp nt β st a w) (hd : dstOk nt o.dst = true) {rq : Option Req} {δ : Delta} (e : aopB T o st = some (rq, δ)) (hr : ∀ r, rq = some r -> r.p) :
  o.wp P a w (Post P w0 fp nt (st.app o.dst δ)) Q := by
 unfold aopB at e
 cases h0 : isMap T o with
 | true => rw [h0] at e; exact aop3_sound hT R hd e
 | false =>
  rw [h0] at e
  simp only [cond_false] at e
  cases h : isNew T o st with
  | true => rw [h] at e; exact aop2_sound hT R hd e hr
  | false => rw [h] at e; exact aop_sound hT hdep R hd e hr
theorem isNew_dep {st st2 : St} (hO : ∀ x ∈ o.op.operands, opd st2 x = opd st x) : isNew T o st2 = isNew T o st := by
 unfold isNew
 split <;> try rfl
 rename_i x hop
 rw [hop] at hO
 rw [hO x (by simp [Op.operands])]
theorem aopB_dep {st st2 : St} {rq : Option Req} {δ : Delta} (e : aopB T o st = some (rq, δ)) (hO : ∀ x ∈ o.op.operands, opd st2 x = opd st x) (H : Same st.heap st2.heap δ.hr) : aopB T o st2 = some (rq, δ) ∧ WIn δ := by
 unfold aopB at e ⊢
 cases h0 : isMap T o with
 | true => rw [h0] at e; exact aop3_dep e hO H
 | false =>
  rw [h0] at e
  simp only [cond_false] at e ⊢
  rw [isNew_dep hO]
  cases h : isNew T o st with
  | true => rw [h] at e; exact aop2_dep e hO H
  | false => rw [h] at e; exact aop_dep e hO H
end
end Go.Abs
namespace Go.Abs
universe u
open Go.RowKit
section
variable {P : Program} {w0 : World} {fp : FP} {nt : Nat} {β : Nat -> Value} {st : St} {a : Act} {w : World} {T : Tab} {o : Oper} {Q : Exit -> Act -> World -> Prop}
theorem Rel.fuse (R : Rel P w0 fp nt β st a w) {q : Nat} (hd : dstOk nt (some q) = true) (hfree : st.heap q = none) {gs : List Nat} {g : Reg} {bv v : Value} {w' : World} {hr : List Nat} (hos : w'.os = w.os) (htape : w'.tape = w.tape) (hout : w'.output = w.output) (hgrow : w.heap.size ≤ w'.heap.size)
  (hgs : ∀ r ∈ gs, ∃ g, st.heap r = some g) (hblk : ∀ b, b < w.heap.size -> (∀ r ∈ gs, ∀ g, st.heap r = some g -> g.live -> ¬ Blk (β r) b) -> w'.heap[b]? = w.heap[b]?)
  (hbv : ∀ b, Blk bv b -> (∃ r ∈ gs, ∃ g, st.heap r = some g ∧ g.live ∧ Blk (β r) b) ∨ w.heap.size ≤ b) (hfull : FullOk bv v g) (hreg : ∀ h', RegRel h' (upd β q bv) w' bv g) :
  Rel P w0 fp nt (upd β q bv) (st.app (some q) ⟨.c (.full q), gs.map (fun r => (r, Reg.dead)) ++ [(q, g)], hr⟩) (a.put (some q) v) w' := by
 have hne : ∀ r g1, st.heap r = some g1 -> r ≠ q := fun r g1 h e => by subst e; rw [hfree] at h; cases h
 have hkill : ∀ (h : Heap), heapPut h (gs.map (fun r => (r, Reg.dead)) ++ [(q, g)]) = upd (heapPut h (gs.map fun r => (r, Reg.dead))) q (some g) := by
  intro h
  have : ∀ (l l' : List (Nat × Reg)) (h : Heap), heapPut h (l ++ l') = heapPut (heapPut h l) l' := by
   intro l
   induction l with
   | nil => intro l' h; rfl
   | cons p l ih => intro l' h; obtain ⟨a, b⟩ := p; simp only [List.cons_append, heapPut]; exact ih _ _
  rw [this]
  rfl
 have hdead : ∀ (l : List Nat) (h : Heap) r, heapPut h (l.map fun r => (r, Reg.dead)) r = if r ∈ l then some .dead else h r := by
  intro l
  induction l with
  | nil => intro h r; simp [heapPut]
  | cons x l ih =>
   intro h r
   simp only [List.map_cons, heapPut]
   rw [ih]
   by_cases h1 : r ∈ l
   ·simp [h1]
   ·by_cases h2 : r = x
    ·subst h2; simp [h1, upd_same]
    ·simp [h1, h2, upd_ne _ _ h2]
 simp only [St.app]
 rw [hkill]
 have look : ∀ r g1, heapPut st.heap (gs.map fun r => (r, Reg.dead)) r = some g1 -> g1.live -> st.heap r = some g1 ∧ r ∉ gs := by
  intro r g1 h1 hl
  rw [hdead] at h1
  split at h1
  ·cases h1; cases hl
  ·rename_i hm; exact ⟨h1, hm⟩
 have apart : ∀ r g1 b, st.heap r = some g1 -> g1.live -> r ∉ gs -> Blk (β r) b -> ∀ r' ∈ gs, ∀ g, st.heap r' = some g -> g.live -> ¬ Blk (β r') b := by
  intro r g1 b h1 h2 h3 h4 r' hr' g' hg' hl' hb'
  have := R.sep r r' g1 g' b h1 hg' h2 hl' h4 hb'
  subst this
  exact h3 hr'
 refine R.update (w' := w') hd hos htape hout hgrow (dst_hid R hd _) (fun b hb hno => hblk b hb fun r hr g hg hl hbb => hno ⟨r, g, hg, hl, hbb⟩) ?_ ?_ ?_ ?_ ?_ ?_
 ·rintro b ⟨r, g1, h1, h2, h3⟩
  by_cases e : r = q
  ·subst e
   rw [upd_same] at h3
   rcases hbv b h3 with ⟨r, _, g, hg, hl, hb⟩ | h
   ·exact .inl ⟨r, g, hg, hl, hb⟩
   ·exact .inr h
  ·rw [upd_ne _ _ e] at h1 h3
   exact .inl ⟨r, g1, (look r g1 h1 h2).1, h2, h3⟩
 ·intro r g1 h1
  have e := hne r g1 h1
  rw [upd_ne _ _ e, hdead]
  split
  ·exact ⟨.dead, rfl, by cases g1 <;> trivial, fun h => h.elim⟩
  ·exact ⟨g1, h1, .refl g1, fun _ => upd_ne _ _ e⟩
 ·intro r g1 hio h1
  have e : r ≠ q := fun h => by
   have h1 : q < nt := by simpa [dstOk, Nat.blt_eq] using hd
   have := R.small
   omega
  rw [upd_ne _ _ e, hdead] at h1
  split at h1
  ·rename_i hm; exact hgs r hm
  ·exact ⟨g1, h1⟩
 ·intro M r g1 h1
  by_cases e : r = q
  ·subst e
   rw [upd_same] at h1
   cases h1
   rw [upd_same]
   exact hreg _
  ·rw [upd_ne _ _ e] at h1
   rw [upd_ne _ _ e]
   cases g1 with
   | dead => trivial
   | _ =>
    obtain ⟨h2, h3⟩ := look r _ h1 trivial
    exact (R.heap r _ h2).mono M fun b hb hl => hblk b (OwnR.lt R ⟨r, _, h2, hl, hb⟩) (apart r _ b h2 hl h3 hb)
 ·intro r r' g1 g2 b h1 h2 l1 l2 e1 e2
  have clash : ∀ r' g', heapPut st.heap (gs.map fun r => (r, Reg.dead)) r' = some g' -> g'.live -> Blk (β r') b -> Blk bv b -> False := by
   intro r' g' h1 h2 h3 h4
   obtain ⟨q1, q2⟩ := look r' g' h1 h2
   rcases hbv b h4 with ⟨r, hr, g, hg, hl, hb⟩ | h
   ·exact apart r' g' b q1 h2 q2 h3 r hr g hg hl hb
   ·have := OwnR.lt R ⟨r', g', q1, h2, h3⟩
    omega
  by_cases d1 : r = q <;> by_cases d2 : r' = q
  ·rw [d1, d2]
  ·subst d1
   rw [upd_same] at e1
   rw [upd_ne _ _ d2] at h2 e2
   exact (clash r' g2 h2 l2 e2 e1).elim
  ·subst d2
   rw [upd_same] at e2
   rw [upd_ne _ _ d1] at h1 e1
   exact (clash r g1 h1 l1 e1 e2).elim
  ·rw [upd_ne _ _ d1] at h1 e1
   rw [upd_ne _ _ d2] at h2 e2
   exact R.sep r r' g1 g2 b (look r g1 h1 l1).1 (look r' g2 h2 l2).1 l1 l2 e1 e2
 ·intro _
  simp only [AVRel, CVRel]
  exact ⟨g, upd_same _ _ _, by rw [upd_same]; exact hfull⟩
theorem row_body {h : Heap} {e : Nat} {xs : List Int} {bv : Value} (H : RegRel h β w bv (.row e .u8 xs)) : ∃ S, BodyAt w e S xs bv ∧ S.Nodup ∧ ∀ b, b ∈ S ↔ Blk bv b := by
 rcases H with ⟨rfl, rfl⟩ | ⟨b, cap, tail, rfl, hh, hl, hm⟩
 ·exact ⟨[], .inl ⟨rfl, rfl, rfl⟩, by simp, fun b => by simp⟩
 ·exact ⟨[b], .inr ⟨b, cap, tail, rfl, hh, hl, hm, rfl⟩, by simp, fun x => by simp [eq_comm]⟩
theorem DeepAt.cons_inv {e eb : Nat} {S : List Nat} {x : Tree} {xs : List Tree} {l : List Value} (H : DeepAt w e eb S (x :: xs) l) :
  ∃ S1 S2 c0 c1 c2 l', S = S1 ++ S2 ∧ l = c0 :: c1 :: c2 :: l' ∧ DeepAt w e eb S1 [x] [c0, c1, c2] ∧ DeepAt w e eb S2 xs l' := by
 cases H with
 | leaf tag body bv Sb S xs l hb hr => exact ⟨Sb ++ [], S, _, _, _, _, by simp, rfl, .leaf tag body bv Sb [] [] [] hb .nil, hr⟩
 | node tag body kids bv b cap l' tail Sb Sk S xs l hb hw hl hc hm hk hr =>
  exact ⟨Sb ++ (b :: Sk) ++ [], S, _, _, _, _, by simp, rfl, .node tag body kids bv b cap l' tail Sb Sk [] [] [] hb hw hl hc hm hk .nil, hr⟩
theorem DeepAt.split {e eb : Nat} : ∀ {k : Nat} {S : List Nat} {xs : List Tree} {l : List Value} (hk : k < xs.length), DeepAt w e eb S xs l ->
  ∃ S1 S2 S3 l1 c0 c1 c2 l3, S = S1 ++ (S2 ++ S3) ∧ l = l1 ++ ([c0, c1, c2] ++ l3) ∧ l1.length = 3 * k ∧ DeepAt w e eb S1 (xs.take k) l1 ∧ DeepAt w e eb S2 [xs[k]] [c0, c1, c2] ∧ DeepAt w e eb S3 (xs.drop (k + 1)) l3 := by
 intro k
 induction k with
 | zero =>
  intro S xs l hk H
  cases xs with
  | nil => exact absurd hk (Nat.not_lt_zero _)
  | cons x xs =>
   obtain ⟨S1, S2, c0, c1, c2, l', rfl, rfl, h1, h2⟩ := H.cons_inv
   exact ⟨[], S1, S2, [], c0, c1, c2, l', rfl, rfl, rfl, .nil, h1, h2⟩
 | succ k ih =>
  intro S xs l hk H
  cases xs with
  | nil => exact absurd hk (Nat.not_lt_zero _)
  | cons x xs =>
   obtain ⟨S1, S2, c0, c1, c2, l', rfl, rfl, h1, h2⟩ := H.cons_inv
   obtain ⟨T1, T2, T3, l1, d0, d1, d2, l3, rfl, rfl, h3, h4, h5, h6⟩ := ih (by simpa using hk) h2
   refine ⟨S1 ++ T1, T2, T3, [c0, c1, c2] ++ l1, d0, d1, d2, l3, by simp, by simp, by simp; omega, h1.append h4, h5, h6⟩
theorem DeepAt.join {e eb : Nat} {k : Nat} {S1 S2 S3 : List Nat} {xs : List Tree} {y : Tree} {l1 l2 l3 : List Value} (hk : k < xs.length) (h1 : DeepAt w e eb S1 (xs.take k) l1) (h2 : DeepAt w e eb S2 [y] l2) (h3 : DeepAt w e eb S3 (xs.drop (k + 1)) l3) :
  DeepAt w e eb (S1 ++ (S2 ++ S3)) (xs.set k y) (l1 ++ (l2 ++ l3)) := by
 rw [<- set_eq_splice xs k y hk, List.append_assoc]
 exact h1.append (h2.append h3)
theorem DeepAt.retag {e eb : Nat} {S : List Nat} {x : Tree} {c0 c1 c2 : Value} (H : DeepAt w e eb S [x] [c0, c1, c2]) (n : Int) : DeepAt w e eb S [Go.Abs.retag n x] [.int .u8 n, c1, c2] := by
 cases H with
 | leaf tag body _ Sb S _ _ hb hr => exact .leaf n body _ Sb S _ _ hb hr
 | node tag body kids _ b cap l' tail Sb Sk S _ _ hb hw hl hc hm hk hr => exact .node n body kids _ b cap l' tail Sb Sk S _ _ hb hw hl hc hm hk hr
theorem DeepAt.leaf0 {e eb : Nat} (n : Int) : DeepAt w e eb [] [.node n [] []] [.int .u8 n, .slice none 0 0, .slice none 0 0] := .leaf n [] _ [] [] [] [] (.inl ⟨rfl, rfl, rfl⟩) .nil
theorem deep_one {h : Heap} {e eb : Nat} {xs : List Tree} {bv kv : Value} {tag : Int} {body : List Int} {Sb : List Nat} {v : Value} (hb : BodyAt w eb Sb body v) (hnb : Sb.Nodup) (H : RegRel h β w bv (.deep e eb xs)) (hk : kv = rootOf bv) (hd : ∀ b, b ∈ Sb -> ¬ Blk bv b) :
  ∃ S, DeepAt w e eb S [.node tag body xs] [.int .u8 tag, v, kv] ∧ S.Nodup ∧ (∀ b, b ∈ S -> b ∈ Sb ∨ Blk bv b) := by
 rcases H with ⟨rfl, rfl⟩ | ⟨b, cap, l, tail, S0, S, rfl, hh, hs, hl, hc, hm, hnd0, hnd, hss, hex⟩
 ·subst hk
  exact ⟨Sb ++ [], .leaf tag body v Sb [] [] [] hb .nil, by simpa using hnb, fun b => by simp⟩
 ·subst hk
  refine ⟨Sb ++ (b :: S) ++ [], .node tag body xs v b cap l tail Sb S [] [] [] hb hh hl hc hm hs .nil, ?_, fun x => ?_⟩
  ·rw [List.append_nil, List.nodup_append]
   refine ⟨hnb, List.nodup_cons.2 ⟨fun h => (List.nodup_cons.1 hnd0).1 (hss _ h), hnd⟩, fun x hx y hy e => ?_⟩
   subst e
   refine hd x hx (Blk_tuple.2 ?_)
   simp only [List.mem_cons] at hy
   exact hy.imp Eq.symm (hss x)
  ·rw [Blk_tuple]
   simp only [List.append_nil, List.mem_append, List.mem_cons]
   exact Or.imp id (Or.imp Eq.symm (hss x))
theorem run_build_n {t el : Nat} (ht : P.underlying t = some (.slice el)) {i : TypeInfo} {zv : Value} (hi : P.info? el = some i) (hz : i.zero = some zv) {n : Nat} (his : i.size = n) (hn : 0 < n) (hzs : zv.cells.size = n) {vs : List Value} (hv : ∀ v ∈ vs, v.cells.size = n) (h0 : 0 < vs.length) (hmax : vs.length * n ≤ 65536) :
  (Instr.buildSlice t vs.length ((List.range' 0 vs.length).zip vs).toArray).run P w = .ok (.slice (some ⟨w.heap.size, 0, none⟩) vs.length vs.length) (w.alloc (.cells (vs.flatMap fun v => v.cells.toList).toArray el)) := by
 have hzero : (zeroValue el).run P w = .ok zv w := by simp [zeroValue, typeInfo, hi, hz]
 have hfill : ∀ zs : Array Value, zs.size = vs.length * n -> Instr.fill (fun i => some (i * n, n)) zs ((List.range' 0 vs.length).zip vs) = some (vs.flatMap fun v => v.cells.toList).toArray := by
  intro zs hzs
  have := fill_dat (sz := n) vs 0 zs.toList hv (by simp [hzs])
  rw [show zs.toList.toArray = zs by simp] at this
  rw [this]
  have e2 : List.drop (vs.length * n) zs.toList = [] := List.drop_of_length_le (by simp [hzs])
  simp [e2]
 have hpos : ¬ vs.length * n = 0 := Nat.ne_of_gt (Nat.mul_pos h0 hn)
 have hl : vs.length ≤ vs.length * n := Nat.le_mul_of_pos_right _ hn
 simp only [Instr.buildSlice, Sem.run_bind, run_underlying ht, Result.andThen_ok, run_sizeOf hi, his]
 rw [if_neg (by omega), if_neg hpos]
 simp only [Sem.run_pure, Result.andThen_ok, Sem.run_bind, hzero]
 rw [hfill _ (by simp)]
 simp [newRow]
theorem run_build_one {t el : Nat} (ht : P.underlying t = some (.slice el)) {i : TypeInfo} {zv : Value} (hi : P.info? el = some i) (hz : i.zero = some zv) {n : Nat} (his : i.size = n) (hn : 0 < n) (hzs : zv.cells.size = n) {v : Value} (hv : v.cells.size = n) (hmax : n ≤ 65536) :
  (Instr.buildSlice t 1 #[(0, v)]).run P w = .ok (.slice (some ⟨w.heap.size, 0, none⟩) 1 1) (w.alloc (.cells v.cells el)) := by
 have := run_build_n (P := P) (w := w) ht hi hz his hn hzs (vs := [v]) (by simpa using hv) (by simp) (by simpa using hmax)
 simpa using this
theorem isLeafC_spec {v : Value} {n : Int} (h : isLeafC v = some n) : v = .agg #[.int .u8 n, .slice none 0 0, .slice none 0 0] := by
 unfold isLeafC at h
 split at h
 ·rename_i cs
  split at h
  ·rename_i m hm
   cases h
   congr 1
   apply Array.toList_inj.1
   exact hm
  ·cases h
 ·cases h
theorem constItems_rel {e eb : Nat} {h : Heap} : ∀ {l : List (Nat × AV)} {n : Nat} {xs : List Tree} {vs : List Value}, constItems l n = some xs -> AVsRel h β w (l.map (·.2)) vs ->
  l.map (·.1) = List.range' n vs.length ∧ vs.length = l.length ∧ xs.length = l.length ∧ (∀ v ∈ vs, v.cells.size = 3) ∧ DeepAt w e eb [] xs (vs.flatMap fun v => v.cells.toList) := by
 intro l
 induction l with
 | nil =>
  intro n xs vs e hv
  cases e
  simp only [List.map_nil, AVsRel] at hv
  subst hv
  exact ⟨rfl, rfl, rfl, by simp, .nil⟩
 | cons p l ih =>
  obtain ⟨i, av⟩ := p
  intro n xs vs e hv
  simp only [List.map_cons, AVsRel] at hv
  obtain ⟨u, r, rfl, hu, hr⟩ := hv
  unfold constItems at e
  split at e
  ·rename_i heq; cases heq
  ·rename_i i' v r' n' heq
   cases heq
   have h70 := cond_some e
   have h1 := nbeq.1 h70.1
   replace e := h70.2
   clear h70
   split at e
   ·rename_i t l' h2 h3
    cases e
    have hv := isLeafC_spec h2
    simp only [AVRel, CVRel] at hu
    subst hu
    subst hv
    obtain ⟨g1, g2, g3, g4, g5⟩ := ih h3 hr
    refine ⟨?_, by simp [g2], by simp [g3], ?_, ?_⟩
    ·rw [List.map_cons, List.length_cons, List.range'_succ, g1, h1]
    ·intro v hv
     rcases List.mem_cons.1 hv with rfl | hv
     ·rfl
     ·exact g4 v hv
    ·rw [List.flatMap_cons]
     exact (DeepAt.leaf0 t).append g5
   ·cases e
  ·cases e
theorem deepBuild_rel (hT : TabOk P T) (R : Rel P w0 fp nt β st a w) {dst : Option Nat} (hd : dstOk nt dst = true) {t n : Nat} {l : List (Nat × AV)} {vs : List Value} (hvs : AVsRel st.heap β w (l.map (·.2)) vs) {rq : Option Req} {δ : Delta} (e : deepBuild T st.heap dst t n l = some (rq, δ)) :
  ∃ v w', (Instr.buildSlice t n ((l.map (·.1)).zip vs).toArray).run P w = .ok v w' ∧ ∃ β', Rel P w0 fp nt β' (st.app dst δ) (a.put dst v) w' := by
 unfold deepBuild at e
 split at e
 ·rename_i i x q1 q2
  split at e
  ·rename_i q el _ _ _ h1
   have ht := tdSlice (hT _ _ h1)
   split at e
   ·rename_i te eb body e' eb' kids h2 hfree hg1 hg2
    have h70 := cond_some e
    have h3 := h70.1
    replace e := h70.2
    clear h70
    cases e
    simp only [Bool.and_eq_true] at h3
    obtain ⟨⟨⟨⟨hi0, hn1⟩, hsz⟩, he⟩, heb⟩ := h3
    obtain rfl := nbeq.1 hi0
    obtain rfl := nbeq.1 hn1
    obtain rfl := nbeq.1 he
    obtain rfl := nbeq.1 heb
    have hsz := nbeq.1 hsz
    obtain ⟨i, zv, hi, his, hby, hz, hzs⟩ := datInfo hT h2
    simp only [List.map_cons, List.map_nil, AVsRel] at hvs
    obtain ⟨v, r, rfl, hv, rfl⟩ := hvs
    simp only [AVRel] at hv
    obtain ⟨lv, rfl, hs⟩ := hv
    simp only [SegsRel] at hs
    obtain ⟨u0, r0, rfl, _, h0, u1, r1, rfl, _, h01, u2, r2, rfl, _, h02, rfl⟩ := hs
    simp only [CVRel] at h0 h01 h02
    obtain ⟨g1, hg1', hp1⟩ := h01
    obtain ⟨g2, hg2', hp2⟩ := h02
    rw [hg1] at hg1'
    cases hg1'
    rw [hg2] at hg2'
    cases hg2'
    simp only [FullOk] at hp1 hp2
    obtain ⟨rfl, _⟩ := hp1
    have hk := hp2.1
    subst h0
    obtain ⟨Sb, hb1, hb2, hb3⟩ := row_body (R.heap q1 _ hg1)
    have hdis : ∀ b, b ∈ Sb -> ¬ Blk (β q2) b := fun b hb hb' => by
     have := R.sep q1 q2 _ _ b hg1 hg2 trivial trivial ((hb3 b).1 hb) hb'
     subst this
     rw [hg1] at hg2
     cases hg2
    obtain ⟨S, hS, hnd, hm⟩ := deep_one (tag := x) hb1 hb2 (R.heap q2 _ hg2) hk hdis
    have hrun := run_build_one (P := P) (w := w) ht hi hz (n := 3) (by rw [his, hsz]) (by omega) (by rw [hzs, hsz]) (v := .agg [Value.int .u8 x, β q1, u2].toArray) (by simp [Value.cells]) (by omega)
    refine ⟨_, _, hrun, ?_⟩
    have hold : ∀ b ∈ S, b < w.heap.size := fun b hb => by
     obtain ⟨o, ho⟩ := hS.obj b hb
     exact (Array.getElem?_eq_some_iff.1 ho).1
    refine ⟨_, R.fuse (gs := [q1, q2]) (bv := .tuple (.slice (some ⟨w.heap.size, 0, none⟩) 1 1 :: S.map ptrTo).toArray) hd hfree rfl rfl rfl (by simp) ?_ (fun b hb _ => Below.heap_alloc w _ b hb) ?_ ⟨rfl, rfl⟩ ?_⟩
    ·intro r hr
     simp only [List.mem_cons, List.not_mem_nil, or_false] at hr
     rcases hr with rfl | rfl
     ·exact ⟨_, hg1⟩
     ·exact ⟨_, hg2⟩
    ·intro b hb
     rcases Blk_tuple.1 hb with rfl | hb
     ·exact .inr (Nat.le_refl _)
     ·rcases hm b hb with hb | hb
      ·exact .inl ⟨q1, by simp, _, hg1, trivial, (hb3 b).1 hb⟩
      ·exact .inl ⟨q2, by simp, _, hg2, trivial, hb⟩
    ·intro h'
     have hS' := hS.mono (w' := w.alloc (.cells (Value.agg [Value.int .u8 x, β q1, u2].toArray).cells el)) fun b hb => Below.heap_alloc w _ b (hold b hb)
     refine .inr ⟨w.heap.size, 1, _, [], S, S, rfl, ?_, hS', rfl, Nat.le_refl _, by unfold maxLen; omega, ?_, hnd, fun _ h => h, hS'.obj⟩
     ·rw [List.append_nil]; exact heap_alloc_new w _
     ·refine List.nodup_cons.2 ⟨fun h => ?_, hnd⟩
      have := hold _ h
      omega
   ·cases e
  ·cases e
 ·split at e
  ·rename_i q el _ _ _ h1
   have ht := tdSlice (hT _ _ h1)
   split at e
   ·rename_i f1 tb f2 f3 f4 f5 sz by' z xs h2 hfree hci
    split at e
    ·rename_i eb _ _ _ h3
     have h70 := cond_some e
     have h4 := h70.1
     replace e := h70.2
     clear h70
     cases e
     simp only [Bool.and_eq_true] at h4
     obtain ⟨⟨⟨hsz, hn⟩, hn0⟩, hn1⟩ := h4
     have hsz := nbeq.1 hsz
     have hn := nbeq.1 hn
     have hn0 := nblt.1 hn0
     have hn1 := nble.1 hn1
     obtain ⟨i, zv, hi, his, hby, hz, hzs⟩ := datInfo hT h2
     simp only at his hzs
     obtain ⟨g1, g2, g3, g4, g5⟩ := constItems_rel (e := el) (eb := eb) hci hvs
     have hrun := run_build_n (P := P) (w := w) ht hi hz (n := 3) (by rw [his, hsz]) (by omega) (by rw [hzs, hsz]) g4 (by omega) (by omega)
     rw [<- g1] at hrun
     have hvn : vs.length = n := by omega
     rw [hvn] at hrun
     refine ⟨_, _, hrun, ?_⟩
     have hxn : xs.length = n := by omega
     refine ⟨_, R.fuse (gs := []) (bv := .tuple (.slice (some ⟨w.heap.size, 0, none⟩) n n :: ([] : List Nat).map ptrTo).toArray) hd hfree rfl rfl rfl (by simp) (fun r hr => by simp at hr) (fun b hb _ => Below.heap_alloc w _ b hb) ?_ ⟨rfl, rfl⟩ ?_⟩
     ·intro b hb
      rcases Blk_tuple.1 hb with rfl | hb
      ·exact .inr (Nat.le_refl _)
      ·simp at hb
     ·intro h'
      have hl := g5.length
      refine .inr ⟨w.heap.size, n, _, [], [], [], by rw [hxn], ?_, g5.mono (fun b hb => by simp at hb), by rw [hl, hxn]; rfl, by omega, by unfold maxLen; omega, by simp, by simp, fun _ h => h, fun x hx => by simp at hx⟩
      rw [List.append_nil]; exact heap_alloc_new w _
    ·cases e
   ·cases e
  ·cases e
theorem deep_owns {h : Heap} {e eb : Nat} {xs : List Tree} {bv : Value} (H : RegRel h β w bv (.deep e eb xs)) : ∃ (l : List Value) (S S' : List Nat), DeepAt w e eb S' xs l ∧ w.ownsRow 0 e 3 (rootOf bv) xs.length l ∧ S.Nodup ∧ (∀ b, Blk bv b ↔ (rootOf bv).ownBlock = some b ∨ b ∈ S) ∧ (∀ b, (rootOf bv).ownBlock = some b -> b ∉ S) ∧ S'.Nodup ∧ (∀ b ∈ S', b ∈ S) ∧ ∀ b ∈ S, ∃ o, w.heap[b]? = some o := by
 rcases H with ⟨rfl, rfl⟩ | ⟨b, cap, l, tail, S, S', rfl, hh, hs, hl, hc, hm, hnd, hnd', hss, hex⟩
 ·exact ⟨[], [], [], .nil, ⟨by simp, .inl ⟨rfl, rfl⟩⟩, by simp, fun b => by simp [rootOf, Value.ownBlock], by simp, by simp, by simp, by simp⟩
 ·have hls := hs.length
  refine ⟨l, S, S', hs, ⟨hls, .inr ⟨b, cap, _, rfl, Nat.zero_le _, hh, hc, hm, by simpa using hl, ?_⟩⟩, (List.nodup_cons.1 hnd).2, fun x => ?_, fun x hx => ?_, hnd', hss, hex⟩
  ·simp only [<- hls]
   exact List.take_left
  ·rw [Blk_tuple]
   simp [rootOf, Value.ownBlock]
  ·have : b = x := by simpa [rootOf, Value.ownBlock] using hx
   subst this
   exact (List.nodup_cons.1 hnd).1
theorem owns_deep {h : Heap} {e eb : Nat} {xs : List Tree} {v : Value} {l : List Value} {S S' : List Nat} (hs : DeepAt w e eb S' xs l) (H : w.ownsRow 0 e 3 v xs.length l) (hnd : S.Nodup) (hv : ∀ b, v.ownBlock = some b -> b ∉ S) (hnd' : S'.Nodup) (hss : ∀ b ∈ S', b ∈ S) (hex : ∀ b ∈ S, ∃ o, w.heap[b]? = some o) :
  ∃ bv, rootOf bv = v ∧ RegRel h β w bv (.deep e eb xs) ∧ ∀ b, Blk bv b -> v.ownBlock = some b ∨ b ∈ S := by
 rcases H.2 with ⟨rfl, hn⟩ | ⟨g, cap, cur, rfl, _, hh, hc, hm, hcs, htk⟩
 ·exact ⟨.slice none 0 0, rfl, .inl ⟨rfl, List.eq_nil_of_length_eq_zero hn⟩, fun b hb => by simp at hb⟩
 ·have hls := hs.length
  refine ⟨.tuple (.slice (some ⟨g, 0, none⟩) xs.length cap :: S.map ptrTo).toArray, rfl, .inr ⟨g, cap, l, cur.toList.drop (xs.length * 3), S, S', rfl, ?_, hs, ?_, hc, hm, List.nodup_cons.2 ⟨hv g rfl, hnd⟩, hnd', hss, hex⟩, fun b hb => ?_⟩
  ·rw [hh]
   congr 2
   apply Array.ext'
   simp only []
   rw [<- htk, List.take_append_drop]
  ·have e1 : (cur.toList.drop (xs.length * 3)).length = cap * 3 - xs.length * 3 := by
    rw [List.length_drop]; congr 1
   rw [hls, e1]
   omega
  ·rcases Blk_tuple.1 hb with rfl | hb
   ·exact .inl rfl
   ·exact .inr hb
theorem deepAppend_rel (hT : TabOk P T) (R : Rel P w0 fp nt β st a w) {dst : Option Nat} (hd : dstOk nt dst = true) {t ty q2 : Nat} {s : AV} {u y : Value} (hs : AVRel st.heap β w s u) (hy : AVRel st.heap β w (.c (.full q2)) y)
  {rq : Option Req} {δ : Delta} (e : deepAppend T st.heap dst t s q2 = some (rq, δ)) (hr : ∀ r, rq = some r -> r.p) :
  ∃ v w', (Builtin.append_ #[t, t] ty #[u, y]).run P w = .ok v w' ∧ ∃ β', Rel P w0 fp nt β' (st.app dst δ) (a.put dst v) w' := by
 unfold deepAppend at e
 split at e
 ·rename_i q el sz by' z h1
  have ht := tdSlice (hT _ _ h1)
  split at e
  ·rename_i te e' eb ys h2 hfree hg2
   have h70 := cond_some e
   have h3 := h70.1
   replace e := h70.2
   clear h70
   simp only [Bool.and_eq_true] at h3
   obtain ⟨⟨hsz, hby⟩, he⟩ := h3
   have hsz := nbeq.1 hsz
   have hby := nblt.1 hby
   obtain rfl := nbeq.1 he
   obtain ⟨i, zv, hi, his, hib, hz, hzs⟩ := datInfo hT h2
   simp only [AVRel, CVRel] at hy
   obtain ⟨g2, hg2', hp2⟩ := hy
   rw [hg2] at hg2'
   cases hg2'
   simp only [FullOk] at hp2
   obtain ⟨hyr, hy1⟩ := hp2
   obtain ⟨ly, Sy, Sy', hSy, hoy, hndy, hmy, hny, hndy', hssy, hexy⟩ := deep_owns (R.heap q2 _ hg2)
   rw [<- hyr] at hoy hmy hny
   have holdy : ∀ b ∈ Sy, b < w.heap.size := fun b hb => by
    obtain ⟨o, ho⟩ := hexy b hb
    exact (Array.getElem?_eq_some_iff.1 ho).1
   obtain ⟨A, c, rfl, hnil, hcells⟩ : ∃ A c, y = .slice A ys.length c ∧ (A = none -> ys = []) ∧ ∀ A', A = some A' -> ∀ j v, ly[j]? = some v -> w.cell? (A'.add j) = some v := by
    rcases R.heap q2 _ hg2 with ⟨hb, rfl⟩ | ⟨b, cap, l, tail, S, S', hb, hh, hs', hl, hc, hm, hnd, _⟩
    ·exact ⟨none, 0, by rw [hyr, hb]; rfl, fun _ => rfl, fun A' h => by cases h⟩
    ·refine ⟨some ⟨b, 0, none⟩, cap, by rw [hyr, hb]; rfl, (fun h => by cases h), fun A' hA j v hj => ?_⟩
     cases hA
     rcases hoy.2 with ⟨h, _⟩ | ⟨g, cap', cur, h, _, hh', hc', hm', hcs', htk⟩
     ·rw [hyr, hb] at h; cases h
     ·rw [hyr, hb] at h
      simp only [rootOf, List.headD_cons, Value.slice.injEq, Option.some.injEq, Addr.mk.injEq, and_true, true_and] at h
      obtain ⟨rfl, rfl⟩ := h
      refine win_block hh' j v ?_
      rw [<- htk, List.getElem?_take] at hj
      split at hj
      ·exact hj
      ·cases hj
   have hlm : ly.length = ys.length * te.size := by rw [hsz]; exact hSy.length
   have core : ∀ (n : Nat) (l : List Value) (u : Value), w.ownsRow 0 el te.size u n l -> okBytes (n + ys.length) te.bytes ->
     ∃ v w', (Builtin.append_ #[t, t] ty #[u, .slice A ys.length c]).run P w = .ok v w' ∧ w'.ownsRow 0 el te.size v (n + ys.length) (l ++ ly) ∧ w.grownBy w' u.ownBlock ∧ (v.ownBlock = u.ownBlock ∨ v.ownBlock = some w.heap.size) := by
    intro n l u hown hb
    have hm : n + ys.length ≤ maxLen := by
     unfold okBytes at hb
     have : (n + ys.length) + (n + ys.length) / 4 + 192 ≤ ((n + ys.length) + (n + ys.length) / 4 + 192) * te.bytes := Nat.le_mul_of_pos_right _ hby
     simp only [maxLen]
     omega
    cases A with
    | none =>
     have h0 := hnil rfl
     subst h0
     have hlm0 : ly = [] := List.eq_nil_of_length_eq_zero (by simpa using hlm)
     subst hlm0
     obtain ⟨A0, cap, rfl, hc⟩ : ∃ A0 cap, u = .slice A0 n cap ∧ n ≤ cap := by
      rcases hown.2 with ⟨rfl, h0⟩ | ⟨g, cap, cur, rfl, _, _, h0, _⟩
      ·exact ⟨none, 0, by rw [h0], by omega⟩
      ·exact ⟨_, cap, rfl, h0⟩
     exact ⟨_, w, run_append_none ht hi A0 n cap c hc, by simpa using hown, ⟨rfl, rfl, rfl, Nat.le_refl _, fun _ _ _ => rfl⟩, .inl rfl⟩
    | some A =>
     obtain ⟨v, w', hrun, h2', h3, _, h5⟩ := append_own_far (P := P) w 0 t ty el i zv te.size te.bytes ht hi hz his hib hzs (by omega) u n l hown A ys.length c ly hlm (hcells A rfl) hSy.one hm hb (Nat.zero_le _)
     exact ⟨v, w', hrun, h2', h3, h5⟩
   split at e
   ·rename_i r
    split at e
    ·rename_i e2 eb2 xs hg
     have h70 := cond_some e
     have h4 := h70.1
     replace e := h70.2
     clear h70
     simp only [Bool.and_eq_true, Bool.not_eq_true'] at h4
     obtain ⟨⟨h4, h5⟩, h6⟩ := h4
     obtain rfl := nbeq.1 h4
     obtain rfl := nbeq.1 h5
     have hrq : r ≠ q2 := fun h => by subst h; rw [Nat.beq_refl] at h6; cases h6
     cases e
     have hin := hr _ rfl
     simp only [req] at hin
     simp only [AVRel, CVRel] at hs
     obtain ⟨g', hg', hp⟩ := hs
     rw [hg] at hg'
     cases hg'
     simp only [FullOk] at hp
     obtain ⟨hur, hu1⟩ := hp
     obtain ⟨lx, Sx, Sx', hSx, hox, hndx, hmx, hnx, hndx', hssx, hexx⟩ := deep_owns (R.heap r _ hg)
     rw [<- hur] at hox hmx hnx
     have holdx : ∀ b ∈ Sx, b < w.heap.size := fun b hb => by
      obtain ⟨o, ho⟩ := hexx b hb
      exact (Array.getElem?_eq_some_iff.1 ho).1
     obtain ⟨v, w', hrun, g3, g4, g5⟩ := core xs.length lx u (by rw [hsz]; exact hox) hin
     have hsep : ∀ b, Blk (β r) b -> ¬ Blk (β q2) b := fun b h h' => hrq (R.sep r q2 _ _ b hg hg2 trivial trivial h h')
     have keepx : ∀ b ∈ Sx, w'.heap[b]? = w.heap[b]? := fun b hb => g4.block b (holdx b hb) fun h => hnx b h.symm hb
     have keepy : ∀ b ∈ Sy, w'.heap[b]? = w.heap[b]? := fun b hb => g4.block b (holdy b hb) fun h => hsep b ((hmx b).2 (.inl h.symm)) ((hmy b).2 (.inr hb))
     obtain ⟨bv, hbv, hreg, hblk⟩ := owns_deep (h := fun _ => none) (β := β) (S := Sx ++ Sy) ((hSx.mono fun b hb => keepx b (hssx b hb)).append (hSy.mono fun b hb => keepy b (hssy b hb))) (by rw [List.length_append]; rw [hsz] at g3; exact g3) (List.nodup_append.2 ⟨hndx, hndy, fun x hx y hy e => by subst e; exact hsep x ((hmx x).2 (.inr hx)) ((hmy x).2 (.inr hy))⟩) (fun b hb h => by
      rcases g5 with g5 | g5
      ·rw [g5] at hb
       rcases List.mem_append.1 h with h | h
       ·exact hnx b hb h
       ·exact hsep b ((hmx b).2 (.inl hb)) ((hmy b).2 (.inr h))
      ·rw [g5] at hb
       cases hb
       rcases List.mem_append.1 h with h | h
       ·have := holdx _ h; omega
       ·have := holdy _ h; omega) (List.nodup_append.2 ⟨hndx', hndy', fun x hx y hy e => by subst e; exact hsep x ((hmx x).2 (.inr (hssx x hx))) ((hmy x).2 (.inr (hssy x hy)))⟩) (fun b hb => by
        rcases List.mem_append.1 hb with h | h
        ·exact List.mem_append_left _ (hssx b h)
        ·exact List.mem_append_right _ (hssy b h)) (fun b hb => by
        rcases List.mem_append.1 hb with h | h
        ·rw [keepx b h]; exact hexx b h
        ·rw [keepy b h]; exact hexy b h)
     refine ⟨v, w', hrun, _, R.fuse (gs := [r, q2]) (bv := bv) hd hfree g4.os g4.tape g4.output g4.size ?_ ?_ ?_ ⟨hbv.symm, ?_⟩ (fun h' => hreg)⟩
     ·intro r' hr'
      simp only [List.mem_cons, List.not_mem_nil, or_false] at hr'
      rcases hr' with rfl | rfl
      ·exact ⟨_, hg⟩
      ·exact ⟨_, hg2⟩
     ·intro b hb hno
      exact g4.block b hb fun h => hno r (by simp) _ hg trivial ((hmx b).2 (.inl h.symm))
     ·intro b hb
      rcases hblk b hb with h | h
      ·rcases g5 with g5 | g5
       ·exact .inl ⟨r, by simp, _, hg, trivial, (hmx b).2 (.inl (by rw [<- g5]; exact h))⟩
       ·rw [g5] at h; cases h; exact .inr (Nat.le_refl _)
      ·rcases List.mem_append.1 h with h | h
       ·exact .inl ⟨r, by simp, _, hg, trivial, (hmx b).2 (.inr h)⟩
       ·exact .inl ⟨q2, by simp, _, hg2, trivial, (hmy b).2 (.inr h)⟩
     ·rcases g3.2 with ⟨rfl, _⟩ | ⟨g, cap, cur, rfl, _⟩ <;> rfl
    ·cases e
   ·rename_i v0
    have h70 := cond_some e
    have h5 := h70.1
    replace e := h70.2
    clear h70
    cases e
    obtain rfl := isNilS_spec h5
    have hin := hr _ rfl
    simp only [req] at hin
    simp only [AVRel, CVRel] at hs
    subst hs
    have hown : w.ownsRow 0 el te.size (.slice none 0 0) 0 [] := ⟨by simp, .inl ⟨rfl, rfl⟩⟩
    obtain ⟨v, w', hrun, g3, g4, g5⟩ := core 0 [] _ hown (by simpa using hin)
    have keepy : ∀ b ∈ Sy, w'.heap[b]? = w.heap[b]? := fun b hb => g4.block b (holdy b hb) fun h => by cases h
    obtain ⟨bv, hbv, hreg, hblk⟩ := owns_deep (h := fun _ => none) (β := β) (S := Sy) (hSy.mono fun b hb => keepy b (hssy b hb)) (by rw [hsz, Nat.zero_add, List.nil_append] at g3; exact g3) hndy (fun b hb h => by
     rcases g5 with g5 | g5
     ·rw [g5] at hb; cases hb
     ·rw [g5] at hb; cases hb; have := holdy _ h; omega) hndy' hssy (fun b hb => by rw [keepy b hb]; exact hexy b hb)
    refine ⟨v, w', hrun, _, R.fuse (gs := [q2]) (bv := bv) hd hfree g4.os g4.tape g4.output g4.size ?_ (fun b hb _ => g4.block b hb fun h => by cases h) ?_ ⟨hbv.symm, ?_⟩ (fun h' => hreg)⟩
    ·intro r' hr'
     simp only [List.mem_cons, List.not_mem_nil, or_false] at hr'
     subst hr'
     exact ⟨_, hg2⟩
    ·intro b hb
     rcases hblk b hb with h | h
     ·rcases g5 with g5 | g5
      ·rw [g5] at h; cases h
      ·rw [g5] at h; cases h; exact .inr (Nat.le_refl _)
     ·exact .inl ⟨q2, by simp, _, hg2, trivial, (hmy b).2 (.inr h)⟩
    ·rcases g3.2 with ⟨rfl, _⟩ | ⟨g, cap, cur, rfl, _⟩ <;> rfl
   ·cases e
  ·cases e
 ·cases e
theorem parts_run {ps : Array (Nat × Operand)} {l : List (Nat × AV)} {vs : List Value} (h : l.map (·.1) = ps.toList.map (·.1)) (h2 : vs = ps.toList.map fun p => a.eval p.2) : (ps.map fun (i, x) => (i, a.eval x)) = ((l.map (·.1)).zip vs).toArray := by
 apply Array.toList_inj.1
 rw [h, h2, Array.toList_map, List.zip_map']
theorem field_run (hT : TabOk P T) {s f t off : Nat} {fs : List (Nat × Nat)} {sz by' : Nat} {z : List CV} {ft : TI} (h1 : T.get s = some ⟨.struct fs, sz, by', z⟩) (h2 : fieldOf fs f = some (t, off)) (h3 : T.get t = some ft) (h4 : 0 < ft.size) (A : Addr) :
  (Instr.fieldAt s (.pointer (some A)) f).run P w = .ok (.pointer (some (A.add off))) w := by
 obtain ⟨l, hu, hl⟩ := tdStruct (hT _ _ h1)
 obtain ⟨fd, hfd, rfl, rfl⟩ := fieldOf_rel hl h2
 obtain ⟨i, hi, hsz, _⟩ := (hT _ _ h3).info
 have hne : ¬ i.size = 0 := by omega
 simp [Instr.fieldAt, run_underlying hu, hfd, Instr.sureAddr, fieldPlace, run_sizeOf hi, hne]
theorem partField_rel (hT : TabOk P T) (R : Rel P w0 fp nt β st a w) {s f r base room : Nat} {o : Option (Nat × Nat)} {u : Value} (hx : AVRel st.heap β w (.c (.ptr r base o room)) u) {rq : Option Req} {δ : Delta} (e : partField T st.heap s f r base o room = some (rq, δ)) :
  δ.hw = [] ∧ ∃ v, (Instr.fieldAt s u f).run P w = .ok v w ∧ AVRel st.heap β w δ.av v := by
 unfold partField at e
 split at e
 ·rename_i fs sz by' z h1
  split at e
  ·rename_i t off h2
   simp only [AVRel, CVRel] at hx
   obtain ⟨g, hg, hp⟩ := hx
   split at e
   ·rename_i ft segs h3 hg'
    rw [hg] at hg'
    cases hg'
    have h70 := cond_some e
    have h4 := h70.1
    replace e := h70.2
    clear h70
    cases e
    simp only [Bool.and_eq_true] at h4
    have h5 := nble.1 h4.1
    have h6 := nblt.1 h4.2
    obtain ⟨_, b, sh, pre, post, TI0, hbv, rfl, hsz⟩ := hp
    refine ⟨rfl, _, field_run hT h1 h2 h3 h6 _, ?_⟩
    simp only [AVRel, CVRel]
    refine ⟨_, hg, rfl, b, sh, pre, post, TI0, hbv, by rw [add_lit, Nat.add_assoc], by omega⟩
   ·rename_i b2 z2 e2 eb2 xs2 k h3 hg'
    rw [hg] at hg'
    cases hg'
    have h70 := cond_some e
    have h4 := h70.1
    replace e := h70.2
    clear h70
    cases e
    simp only [Bool.and_eq_true] at h4
    obtain ⟨⟨h4, h5⟩, h6⟩ := h4
    obtain rfl := nbeq.1 h4
    obtain rfl := nbeq.1 h5
    obtain rfl := nbeq.1 h6
    obtain ⟨_, k', b, n, cap, hk, hlt, hroot, rfl⟩ := hp
    cases hk
    refine ⟨rfl, _, field_run hT h1 h2 h3 (show 0 < 1 from Nat.zero_lt_one) _, ?_⟩
    simp only [AVRel, CVRel]
    exact ⟨_, hg, by omega, k, b, n, cap, rfl, hlt, hroot, by rw [add_lit]⟩
   ·cases e
  ·cases e
 ·cases e
theorem partLoad_rel (R : Rel P w0 fp nt β st a w) {t : Nat} {ti : TI} (hT : TIOk P t ti) {r base room : Nat} {o : Option (Nat × Nat)} {u : Value} (hx : AVRel st.heap β w (.c (.ptr r base o room)) u) {δ : Delta} (e : partLoad ti st.heap r base o room = some δ) :
  δ.hw = [] ∧ ∃ v, (Instr.loadAt t u).run P w = .ok v w ∧ AVRel st.heap β w δ.av v := by
 unfold partLoad at e
 have h70 := cond_some e
 have h1 := h70.1
 replace e := h70.2
 clear h70
 simp only [Bool.and_eq_true, Bool.not_eq_true'] at h1
 obtain ⟨⟨h1, h2⟩, h3⟩ := h1
 have h1 := nbeq.1 h1
 simp only [AVRel, CVRel] at hx
 obtain ⟨g, hg, hp⟩ := hx
 split at e
 ·rename_i segs hg'
  rw [hg] at hg'
  cases hg'
  split at e
  ·rename_i rest hd
   split at e
   ·rename_i av hrd
    cases e
    refine ⟨rfl, ?_⟩
    obtain ⟨_, b, sh, pre, post, TI0, hbv, rfl, hsz⟩ := hp
    obtain ⟨b', sh', pre', cs, post', TT, hbv', hps, hh, hs⟩ := R.heap r _ hg
    rw [hbv] at hbv'
    simp only [Value.tuple.injEq, Array.mk.injEq, List.cons.injEq, Value.pointer.injEq, Option.some.injEq, Addr.mk.injEq, and_true, true_and, Value.agg.injEq, Value.int.injEq] at hbv'
    obtain ⟨⟨rfl, rfl⟩, rfl, rfl, rfl⟩ := hbv'
    obtain ⟨h4, h5⟩ := dropSegs_rel hs hd
    obtain ⟨h6, _, h8⟩ := readSegs_rel h5 hrd (fun i lim e => by cases e) hT.agg1
    obtain ⟨v, hv, hav⟩ := h8 h3
    have hlt : base < cs.toList.length := by
     have := (List.getElem?_eq_some_iff.1 hv).1
     simp only [offOf, List.length_drop] at this
     omega
    have hcell : (pre ++ cs ++ post).toList[sh + base]? = some v := by
     rw [Array.toList_append, Array.toList_append, List.append_assoc, List.getElem?_append_right (by simp; omega), show sh + base - pre.toList.length = base by simp; omega, List.getElem?_append_left hlt]
     simpa [offOf] using hv
    have hw := win_block hh
    have H := (run_loadVar (P := P) hT hw (off := sh + base) (by
     have := (List.getElem?_eq_some_iff.1 hcell).1
     omega)).2 h3 v hcell
    rw [add_lit, Nat.zero_add] at H
    exact ⟨v, by simp [Instr.loadAt, Instr.sureAddr, H], hav⟩
   ·cases e
  ·cases e
 ·cases e
theorem run_storeAt {t : Nat} {ti : TI} (hT : TIOk P t ti) {b off : Nat} {old : Array Value} {T' : Nat} {y : Value} (hh : w.heap[b]? = some (.cells old T' (0, 0))) (hlen : off + y.cells.size ≤ old.size) (h1 : ∀ u ∈ y.cells.toList, u.oneCell' = true) (h2 : y.cells.size = ti.size) :
  (Instr.storeAt t (.pointer (some ⟨b, off, none⟩)) y).run P w = .ok () (w.setRow b (old.toList.take off ++ y.cells.toList ++ old.toList.drop (off + y.cells.size)).toArray) := by
 obtain ⟨i, hi, hsz, _⟩ := hT.info
 have := run_storeCells_at (P := P) b off T' y.cells.toList 0 old w hh (by simp; omega) h1
 simp only [Nat.add_zero, Array.length_toList] at this
 simp [Instr.storeAt, Instr.sureAddr, storeVar, run_sizeOf hi, hsz, h2, this]
theorem splice3 {α : Type} {l1 m l3 tl y : List α} {n k : Nat} (hn : l1.length = n) (hm : k ≤ m.length) (hy : y.length = k) : (l1 ++ (m ++ l3) ++ tl).take n ++ y ++ (l1 ++ (m ++ l3) ++ tl).drop (n + k) = l1 ++ ((y ++ m.drop k) ++ l3) ++ tl := by
 subst hn
 have e : l1 ++ (m ++ l3) ++ tl = l1 ++ (m ++ (l3 ++ tl)) := by simp
 rw [e, List.take_left, List.drop_append, List.drop_of_length_le (by omega), List.nil_append, Nat.add_sub_cancel_left, List.drop_append_of_le_length hm]
 simp [List.append_assoc]
theorem deepStore_rel (R : Rel P w0 fp nt β st a w) {t : Nat} {ti : TI} (hT : TIOk P t ti) {r k e eb : Nat} {xs : List Tree} {u y : Value} {x' : Tree} (hg : st.heap r = some (.deep e eb xs)) (hlt : k < xs.length) {b n cap : Nat} (hroot : rootOf (β r) = .slice (some ⟨b, 0, none⟩) n cap) (hu : u = .pointer (some ⟨b, 3 * k + 0, none⟩))
  (hsz : y.cells.size = ti.size) (hle : y.cells.size ≤ 3) (h1 : ∀ v ∈ y.cells.toList, v.oneCell' = true)
  (hx : ∀ (S : List Nat) (c0 c1 c2 : Value), DeepAt w e eb S [xs[k]] [c0, c1, c2] -> ∃ S2, (∀ b ∈ S2, b ∈ S) ∧ (S.Nodup -> S2.Nodup) ∧ DeepAt w e eb S2 [x'] (y.cells.toList ++ [c0, c1, c2].drop y.cells.size)) {dst : Option Nat} (hd : dstOk nt dst = true) {hr : List Nat} :
  ∃ w', (Instr.storeAt t u y).run P w = .ok () w' ∧ Rel P w0 fp nt β (st.app dst ⟨.c (.val undef), [(r, .deep e eb (xs.set k x'))], hr⟩) (a.put dst undef) w' := by
 subst hu
 rcases R.heap r _ hg with ⟨hb, _⟩ | ⟨b', cap', l, tail, S, S', hbv, hh, hs, hl, hc, hm, hnd, hnd', hss, hex⟩
 ·rw [hb] at hroot; cases hroot
 ·rw [hbv] at hroot
  simp only [rootOf, List.headD_cons, Value.slice.injEq, Option.some.injEq, Addr.mk.injEq, and_true, true_and] at hroot
  obtain ⟨rfl, _, _⟩ := hroot
  obtain ⟨S1, S2, S3, l1, c0, c1, c2, l3, rfl, rfl, hl1, h4, h5, h6⟩ := hs.split hlt
  obtain ⟨S2', g1, g2, g3⟩ := hx _ _ _ _ h5
  have hrun := run_storeAt (P := P) hT (off := 3 * k + 0) (y := y) hh (by simp; omega) h1 hsz
  have hcells : ((l1 ++ ([c0, c1, c2] ++ l3) ++ tail).toArray.toList.take (3 * k + 0) ++ y.cells.toList ++ (l1 ++ ([c0, c1, c2] ++ l3) ++ tail).toArray.toList.drop (3 * k + 0 + y.cells.size)) = l1 ++ ((y.cells.toList ++ [c0, c1, c2].drop y.cells.size) ++ l3) ++ tail :=
   splice3 (by omega) (by simpa using hle) (by simp)
  refine ⟨_, hrun, ?_⟩
  rw [hcells]
  refine R.write (g' := .deep e eb (xs.set k x')) hg trivial (by rw [hbv]; exact Blk_tuple.2 (.inl rfl)) ⟨rfl, rfl, by simp⟩ hd ?_
  intro h' M
  have hS : ∀ x ∈ S, (w.setRow b' (l1 ++ ((y.cells.toList ++ [c0, c1, c2].drop y.cells.size) ++ l3) ++ tail).toArray).heap[x]? = w.heap[x]? := fun x hx => setRow_other w b' x _ (fun e => (List.nodup_cons.1 hnd).1 (e ▸ hx))
  have hj := h4.join hlt g3 h6
  have hsub : ∀ x ∈ S1 ++ (S2' ++ S3), x ∈ S1 ++ (S2 ++ S3) := by
   intro x hx
   simp only [List.mem_append] at hx ⊢
   exact hx.imp id (Or.imp (g1 x) id)
  refine .inr ⟨b', cap', _, tail, S, S1 ++ (S2' ++ S3), by rw [hbv]; simp, setRow_block hh, hj.mono (fun x hx => hS x (hss x (hsub x hx))), ?_, by simpa using hc, hm, hnd, ?_, fun x hx => hss x (hsub x hx), fun x hx => by rw [hS x hx]; exact hex x hx⟩
  ·simp only [List.length_append, List.length_drop, List.length_cons, List.length_nil, Array.length_toList] at hl ⊢
   omega
  ·rw [List.nodup_append] at hnd' ⊢
   obtain ⟨n1, n2, n3⟩ := hnd'
   rw [List.nodup_append] at n2 ⊢
   obtain ⟨n4, n5, n6⟩ := n2
   exact ⟨n1, ⟨g2 n4, n5, fun x hx y hy => n6 x (g1 x hx) y hy⟩, fun x hx y hy => n3 x hx y (by
    simp only [List.mem_append] at hy ⊢
    exact hy.imp (g1 y) id)⟩
theorem partStore_rel (R : Rel P w0 fp nt β st a w) {t : Nat} {ti : TI} (hT : TIOk P t ti) {r base room : Nat} {o : Option (Nat × Nat)} {u y : Value} {v : AV} (hx : AVRel st.heap β w (.c (.ptr r base o room)) u) (hy : AVRel st.heap β w v y) {δ : Delta} (e : partStore ti st.heap v r base o room = some δ)
  {dst : Option Nat} (hd : dstOk nt dst = true) : ∃ w', (Instr.storeAt t u y).run P w = .ok () w' ∧ Rel P w0 fp nt β (st.app dst δ) (a.put dst undef) w' := by
 unfold partStore at e
 simp only [AVRel, CVRel] at hx
 obtain ⟨g, hg, hp⟩ := hx
 split at e
 ·rename_i segs hg'
  rw [hg] at hg'
  cases hg'
  have h70 := cond_some e
  have h1 := h70.1
  replace e := h70.2
  clear h70
  simp only [Bool.and_eq_true] at h1
  obtain ⟨⟨h1, h2⟩, h3⟩ := h1
  have h1 := nbeq.1 h1
  have h3 := nbeq.1 h3
  split at e
  ·rename_i p rest hsp
   split at e
   ·rename_i rest' hwr
    cases e
    obtain ⟨_, b, sh, pre, post, TI0, hbv, rfl, hsz⟩ := hp
    obtain ⟨b', sh', pre', cs, post', TT, hbv', hps, hh, hs⟩ := R.heap r _ hg
    rw [hbv] at hbv'
    simp only [Value.tuple.injEq, Array.mk.injEq, List.cons.injEq, Value.pointer.injEq, Option.some.injEq, Addr.mk.injEq, and_true, true_and, Value.agg.injEq, Value.int.injEq] at hbv'
    obtain ⟨⟨rfl, rfl⟩, rfl, rfl, rfl⟩ := hbv'
    obtain ⟨l1, l2, hl, hl1, hp1, hp2⟩ := splitSegs_rel hs hsp
    have hys : y.cells.size = 1 := by
     cases v with
     | tup xs => simp only [writeSegs] at hwr; cases hwr
     | pan t' n' => simp only [writeSegs] at hwr; cases hwr
     | agg xs =>
      obtain ⟨l, rfl, hs'⟩ := hy
      have := hs'.length
      simp only [valSize] at h3
      simp [Value.cells]
      omega
     | c z =>
      have hone := CVRel.oneCell hy
      have key : y.oneCell' = true -> y.cells.size = 1 := fun h1 => by cases y <;> simp_all [Value.cells, Value.oneCell']
      rcases hone with ⟨u, rfl⟩ | h1
      ·have : y = u := hy
       subst this
       cases h1 : y.oneCell' with
       | true => exact key h1
       | false =>
        exfalso
        simp only [writeSegs] at hwr
        cases rest with
        | nil => cases hwr
        | cons c' cs' => cases c' <;> simp only [cellAV, h1, cond_false] at hwr <;> cases hwr
      ·exact key h1
    obtain ⟨h4, h5, h6⟩ := writeSegs_rel hp2 hy hwr (fun i lim e => by cases e)
    simp only [offOf, Nat.zero_add, List.take_zero, List.nil_append] at h4 h6
    have hone1 : ∀ u ∈ y.cells.toList, u.oneCell' = true := fun u hu => h6.one u (by simp [hu])
    have hcsl : cs.size = base + l2.length := by rw [<- Array.length_toList, hl]; simp [hl1]
    have hrun := run_storeAt (P := P) hT (off := sh + base) (y := y) hh (by simp; omega) hone1 (by omega)
    refine ⟨_, hrun, ?_⟩
    refine R.write (g' := .part (p ++ rest')) hg trivial (by rw [hbv]; simp) ?_ hd ?_
    ·simp only [Shape]
     rw [segSize_append, h5, <- hp1.length, <- hp2.length, <- hs.length, hl]
     simp
    ·intro h' M
     refine ⟨b, sh, pre, (l1 ++ (y.cells.toList ++ l2.drop y.cells.size)).toArray, post, TT, hbv, hps, ?_, (hp1.append h6).mono M⟩
     rw [setRow_block hh]
     congr 2
     apply Array.toList_inj.1
     have e1 : (pre ++ cs ++ post).toList = (pre.toList ++ l1) ++ (l2 ++ post.toList) := by
      simp [hl, List.append_assoc]
     have e2 : (pre.toList ++ l1).length = sh + base := by simp [hl1, hps]
     rw [e1, List.take_append_of_le_length (by omega), List.take_of_length_le (by omega), List.drop_append, List.drop_of_length_le (by omega), List.nil_append, e2, Nat.add_sub_cancel_left, List.drop_append_of_le_length (by omega)]
     simp [List.append_assoc]
   ·cases e
  ·cases e
 ·rename_i e0 eb xs k hg'
  rw [hg] at hg'
  cases hg'
  have h70 := cond_some e
  have h1 := h70.1
  replace e := h70.2
  clear h70
  obtain rfl := nbeq.1 h1
  obtain ⟨_, k', b, n, cap, hk, hlt, hroot, rfl⟩ := hp
  cases hk
  split at e
  ·rename_i m
   have h70 := cond_some e
   have h1 := h70.1
   replace e := h70.2
   clear h70
   simp only [Bool.and_eq_true] at h1
   have h2 := nbeq.1 h1.1
   cases e
   simp only [AVRel, CVRel] at hy
   subst hy
   refine deepStore_rel R hT hg hlt hroot rfl (by rw [h2]; rfl) (by simp [Value.cells]) (by simp [Value.cells, Value.oneCell']) (fun S c0 c1 c2 H => ⟨S, fun _ h => h, id, ?_⟩) hd
   have e1 : xs.getD k dTree = xs[k] := by rw [List.getD_eq_getElem?_getD, List.getElem?_eq_getElem hlt]; rfl
   rw [e1]
   exact H.retag m
  ·rename_i m
   have h70 := cond_some e
   have h1 := h70.1
   replace e := h70.2
   clear h70
   simp only [Bool.and_eq_true] at h1
   have h2 := nbeq.1 h1.1
   cases e
   simp only [AVRel] at hy
   obtain ⟨ly, rfl, hs⟩ := hy
   simp only [SegsRel, CVRel] at hs
   obtain ⟨u0, r0, rfl, _, rfl, u1, r1, rfl, _, rfl, u2, r2, rfl, _, rfl, rfl⟩ := hs
   refine deepStore_rel R hT hg hlt hroot rfl (by rw [h2]; rfl) (by simp [Value.cells]) (by simp [Value.cells, Value.oneCell']) (fun S c0 c1 c2 H => ⟨[], by simp, by simp, ?_⟩) hd
   exact DeepAt.leaf0 m
  ·cases e
 ·cases e
theorem aop4_sound (hT : TabOk P T) (R : Rel P w0 fp nt β st a w) (hd : dstOk nt o.dst = true) {rq : Option Req} {δ : Delta} (e : aop4 T o st = some (rq, δ)) (hr : ∀ r, rq = some r -> r.p) :
  o.wp P a w (Post P w0 fp nt (st.app o.dst δ)) Q := by
 have fin : ∀ (v : Value), (execOp a.eval o).run P w = .ok (.value v) w -> δ.hw = [] -> AVRel st.heap β w δ.av v -> o.wp P a w (Post P w0 fp nt (st.app o.dst δ)) Q := by
  intro v h1 h2 h3
  obtain ⟨av, hw, hr'⟩ := δ
  simp only at h2
  subst h2
  exact fin_pure R hd h1 h3
 have fin' : ∀ (v : Value) (w' : World), (execOp a.eval o).run P w = .ok (.value v) w' -> (∃ β', Rel P w0 fp nt β' (st.app o.dst δ) (a.put o.dst v) w') -> o.wp P a w (Post P w0 fp nt (st.app o.dst δ)) Q := fun v w' h1 h2 => wp_val h1 h2
 cases hop : o.op
 case buildSlice t n ps =>
  simp only [aop4, hop] at e
  split at e
  ·rename_i l hl
   obtain ⟨h1, h2⟩ := partsAV_rel R hl
   obtain ⟨v, w', h3, h4⟩ := deepBuild_rel hT R hd h2 e
   rw [<- parts_run (a := a) h1 rfl] at h3
   exact fin' v w' (by simp [execOp, hop, Sem.run_bind, h3]) h4
  ·cases e
 case indexAddr t x i =>
  simp only [aop4, hop] at e
  split at e
  ·rename_i el _ _ _ q k n h1 h2 h3
   split at e
   ·rename_i te e' eb xs h4 hg
    have h70 := cond_some e
    have h5 := nbeq.1 h70.1
    replace e := h70.2
    clear h70
    cases e
    have hin := hr _ rfl
    simp only [req] at hin
    have hx := opd_rel R h2
    simp only [AVRel, CVRel] at hx
    obtain ⟨g, hg', hp⟩ := hx
    rw [hg] at hg'
    cases hg'
    simp only [FullOk] at hp
    have hi := opd_rel R h3
    simp only [AVRel, CVRel] at hi
    rcases R.heap q _ hg with ⟨hb, rfl⟩ | ⟨b, cap, l, tail, S, S', hbv, hh, hs, _⟩
    ·simp at hin; omega
    ·have hxv : a.eval x = .slice (some ⟨b, 0, none⟩) xs.length cap := by rw [hp.1, hbv]; rfl
     have hu := tdSlice (hT _ _ h1)
     obtain ⟨ii, hii, hsz, _⟩ := (hT _ _ h4).info
     refine fin (.pointer (some (Addr.add ⟨b, 0, none⟩ (n.toNat * te.size)))) ?_ rfl ?_
     ·simp [execOp, hop, hxv, hi, Sem.run_bind, Instr.indexAt, asIntOf_int, run_underlying hu, hin, run_sizeOf hii, hsz]
     ·simp only [AVRel, CVRel]
      refine ⟨_, hg, by omega, n.toNat, b, xs.length, cap, rfl, by omega, by rw [hbv]; rfl, ?_⟩
      rw [add_lit, h5]
      congr 3
      omega
   ·cases e
  ·cases e
 case nilCheck x =>
  simp only [aop4, hop] at e
  split at e
  ·rename_i r b m h1
   split at e
   ·rename_i segs hg
    cases e
    have hx := opd_rel R h1
    have hx2 := hx
    simp only [AVRel, CVRel] at hx2
    obtain ⟨g, hg', hp⟩ := hx2
    rw [hg] at hg'
    cases hg'
    obtain ⟨_, b', sh, pre, post, TI0, hbv, hv, hsz⟩ := hp
    refine fin (a.eval x) ?_ rfl hx
    simp [execOp, hop, hv]
   ·cases e
  ·cases e
 case fieldAddr s x f =>
  simp only [aop4, hop] at e
  split at e
  ·rename_i r b oo m h1
   obtain ⟨h2, v, h3, h4⟩ := partField_rel hT R (opd_rel R h1) e
   exact fin v (by simp [execOp, hop, Sem.run_bind, h3]) h2 h4
  ·cases e
 case load t x =>
  simp only [aop4, hop] at e
  split at e
  ·rename_i ti r b oo m h1 h2
   split at e
   ·rename_i δ' h3
    cases e
    obtain ⟨h4, v, h5, h6⟩ := partLoad_rel R (hT _ _ h1) (opd_rel R h2) h3
    exact fin v (by simp [execOp, hop, Sem.run_bind, h5]) h4 h6
   ·cases e
  ·cases e
 case store t x v =>
  simp only [aop4, hop] at e
  split at e
  ·rename_i ti r b oo m av h1 h2 h3
   split at e
   ·rename_i δ' h4
    cases e
    obtain ⟨w', h5, h6⟩ := partStore_rel R (hT _ _ h1) (opd_rel R h2) (opd_rel R h3) h4 hd
    refine wp_skip' (w' := w') ?_ ⟨β, h6⟩
    simp [execOp, hop, Sem.run_bind, h5]
   ·cases e
  ·cases e
 case call c =>
  obtain ⟨callee, args, tys⟩ := c
  cases callee with
  | value => simp only [aop4, hop] at e; cases e
  | invoke => simp only [aop4, hop] at e; cases e
  | builtin b =>
   simp only [aop4, hop] at e
   split at e
   ·rename_i t t' s q h1 h2
    have h70 := cond_some e
    have h3 := h70.1
    replace e := h70.2
    clear h70
    obtain rfl := nbeq.1 h3
    have hx := opds_rel R h2
    simp only [AVsRel] at hx
    obtain ⟨u, r1, h4, hu, y, r2, rfl, hy, rfl⟩ := hx
    have ha : args.map a.eval = #[u, y] := by
     apply Array.toList_inj.1
     simpa using h4
    have ht : tys = #[t, t] := by
     apply Array.toList_inj.1
     simpa using h1
    obtain ⟨v, w', h5, h6⟩ := deepAppend_rel hT R hd (ty := o.type) hu hy e hr
    refine fin' v w' ?_ h6
    simp [execOp, hop, resolve, invoke, builtin, Sem.run_bind, ha, ht, h5]
   ·rename_i t q h1 h2
    split at e
    ·rename_i el _ _ _ e0 eb xs h3 hg
     cases e
     have hx := opds_rel R h2
     simp only [AVsRel] at hx
     obtain ⟨u, r1, h4, hu, rfl⟩ := hx
     have ha : args.map a.eval = #[u] := by
      apply Array.toList_inj.1
      simpa using h4
     have ht : tys = #[t] := by
      apply Array.toList_inj.1
      simpa using h1
     simp only [AVRel, CVRel] at hu
     obtain ⟨g, hg', hp⟩ := hu
     rw [hg] at hg'
     cases hg'
     simp only [FullOk] at hp
     obtain ⟨A, cap, hs⟩ : ∃ A cap, u = .slice A xs.length cap := by
      rcases R.heap q _ hg with ⟨hb, rfl⟩ | ⟨b, cap, l, tail, S, S', hbv, _⟩
      ·exact ⟨none, 0, by rw [hp.1, hb]; rfl⟩
      ·exact ⟨_, cap, by rw [hp.1, hbv]; rfl⟩
     subst hs
     have hut := tdSlice (hT _ _ h3)
     refine fin (.int .i64 (xs.length : Nat)) ?_ rfl (by simp only [AVRel, CVRel])
     simp [execOp, hop, resolve, invoke, builtin, Sem.run_bind, ha, ht, Builtin.len_, run_underlying hut, goInt]
    ·cases e
   ·cases e
 all_goals (simp only [aop4, hop] at e; cases e)
theorem deepBuild_dep {h h' : Heap} {dst : Option Nat} {t n : Nat} {l : List (Nat × AV)} {rq : Option Req} {δ : Delta} (e : deepBuild T h dst t n l = some (rq, δ)) (H : Same h h' δ.hr) : deepBuild T h' dst t n l = some (rq, δ) ∧ WIn δ := by
 unfold deepBuild at e ⊢
 split at e
 ·rename_i i x q1 q2
  split at e
  ·rename_i q el _ _ _ h1
   split at e
   ·rename_i te eb body e' eb' kids h2 hfree hg1 hg2
    have h70 := cond_some e
    have h3 := h70.1
    replace e := h70.2
    clear h70
    cases e
    refine ⟨?_, fun r hr => by simp at hr ⊢; omega⟩
    rw [H q (by simp), H q1 (by simp), H q2 (by simp)]
    simp only [h2, hfree, hg1, hg2, h3, cond_true]
   ·cases e
  ·cases e
 ·split at e
  ·rename_i q el _ _ _ h1
   split at e
   ·rename_i f1 tb f2 f3 f4 f5 sz by' z xs h2 hfree hci
    split at e
    ·rename_i eb _ _ _ h3
     have h70 := cond_some e
     have h4 := h70.1
     replace e := h70.2
     clear h70
     cases e
     refine ⟨?_, fun r hr => by simpa using hr⟩
     rw [H q (by simp)]
     simp only [h2, hfree, hci, h3, h4, cond_true]
    ·cases e
   ·cases e
  ·cases e
theorem deepAppend_dep {h h' : Heap} {dst : Option Nat} {t q2 : Nat} {s : AV} {rq : Option Req} {δ : Delta} (e : deepAppend T h dst t s q2 = some (rq, δ)) (H : Same h h' δ.hr) : deepAppend T h' dst t s q2 = some (rq, δ) ∧ WIn δ := by
 unfold deepAppend at e ⊢
 split at e
 ·rename_i q el sz by' z h1
  split at e
  ·rename_i te e' eb ys h2 hfree hg2
   have h70 := cond_some e
   have h3 := h70.1
   replace e := h70.2
   clear h70
   split at e
   ·rename_i r
    split at e
    ·rename_i e2 eb2 xs hg
     have h70 := cond_some e
     have h4 := h70.1
     replace e := h70.2
     clear h70
     cases e
     refine ⟨?_, fun r hr => by simp at hr ⊢; omega⟩
     rw [H q (by simp), H q2 (by simp), H r (by simp)]
     simp only [h2, hfree, hg, hg2, h3, h4, cond_true]
    ·cases e
   ·have h70 := cond_some e
    have h4 := h70.1
    replace e := h70.2
    clear h70
    cases e
    refine ⟨?_, fun r hr => by simp at hr ⊢; omega⟩
    rw [H q (by simp), H q2 (by simp)]
    simp only [h2, hfree, hg2, h3, h4, cond_true]
   ·cases e
  ·cases e
 ·cases e
theorem partField_dep {h h' : Heap} {s f r base room : Nat} {o : Option (Nat × Nat)} {rq : Option Req} {δ : Delta} (e : partField T h s f r base o room = some (rq, δ)) (H : h' r = h r) : partField T h' s f r base o room = some (rq, δ) ∧ WIn δ := by
 have nil : δ.hw = [] -> WIn δ := fun h r hr => by simp [h] at hr
 unfold partField at e ⊢
 rw [H]
 refine ⟨e, nil ?_⟩
 split at e
 ·split at e
  ·split at e
   ·obtain ⟨_, h2⟩ := cond_some e; cases h2; rfl
   ·obtain ⟨_, h2⟩ := cond_some e; cases h2; rfl
   ·cases e
  ·cases e
 ·cases e
theorem partLoad_dep {h h' : Heap} {ti : TI} {r base room : Nat} {o : Option (Nat × Nat)} {δ : Delta} (e : partLoad ti h r base o room = some δ) (H : h' r = h r) : partLoad ti h' r base o room = some δ ∧ WIn δ := by
 have nil : δ.hw = [] -> WIn δ := fun h r hr => by simp [h] at hr
 unfold partLoad at e ⊢
 rw [H]
 refine ⟨e, nil ?_⟩
 have h70 := cond_some e
 replace e := h70.2
 clear h70
 split at e
 ·split at e
  ·split at e
   ·cases e; rfl
   ·cases e
  ·cases e
 ·cases e
theorem partStore_dep {h h' : Heap} {ti : TI} {v : AV} {r base room : Nat} {o : Option (Nat × Nat)} {δ : Delta} (e : partStore ti h v r base o room = some δ) (H : h' r = h r) : partStore ti h' v r base o room = some δ ∧ WIn δ := by
 unfold partStore at e ⊢
 rw [H]
 refine ⟨e, ?_⟩
 split at e
 ·have h70 := cond_some e
  replace e := h70.2
  clear h70
  split at e
  ·split at e
   ·cases e; intro r hr; simpa using hr
   ·cases e
  ·cases e
 ·have h70 := cond_some e
  replace e := h70.2
  clear h70
  split at e
  ·obtain ⟨_, h2⟩ := cond_some e; cases h2; intro r hr; simpa using hr
  ·obtain ⟨_, h2⟩ := cond_some e; cases h2; intro r hr; simpa using hr
  ·cases e
 ·cases e
theorem aop4_dep {st st2 : St} {rq : Option Req} {δ : Delta} (e : aop4 T o st = some (rq, δ)) (hO : ∀ x ∈ o.op.operands, opd st2 x = opd st x) (H : Same st.heap st2.heap δ.hr)
  (hc : ∀ q, deepCand T o st = some (some q) -> st2.heap q = st.heap q) : aop4 T o st2 = some (rq, δ) ∧ WIn δ := by
 have nil : δ.hw = [] -> WIn δ := fun h r hr => by simp [h] at hr
 cases hop : o.op <;> rw [hop] at hO <;> simp only [Op.operands] at hO
 case buildSlice t n ps =>
  simp only [aop4, hop] at e ⊢
  rw [partsAV_congr (by simpa using hO)]
  split at e
  ·exact deepBuild_dep e H
  ·cases e
 case indexAddr t x i =>
  simp only [aop4, hop] at e ⊢
  rw [hO x (by simp), hO i (by simp)]
  split at e
  ·rename_i el _ _ _ q k n h1 h2 h3
   split at e
   ·rename_i te e' eb xs h4 hg
    have h70 := cond_some e
    have h5 := h70.1
    replace e := h70.2
    clear h70
    cases e
    refine ⟨?_, nil rfl⟩
    rw [H q (by simp)]
    simp only [h4, hg, h5, cond_true]
   ·cases e
  ·cases e
 case nilCheck x =>
  simp only [aop4, hop] at e ⊢
  rw [hO x (by simp)]
  split at e
  ·rename_i r b m h1
   split at e
   ·rename_i segs hg
    cases e
    refine ⟨?_, nil rfl⟩
    rw [H r (by simp), hg]
   ·cases e
  ·cases e
 case fieldAddr s x f =>
  simp only [aop4, hop] at e ⊢
  rw [hO x (by simp)]
  split at e
  ·rename_i r b oo m h1
   exact partField_dep e (hc r (by simp only [deepCand, hop, h1]))
  ·cases e
 case load t x =>
  simp only [aop4, hop] at e ⊢
  rw [hO x (by simp)]
  split at e
  ·rename_i ti r b oo m h1 h2
   split at e
   ·rename_i δ' h3
    cases e
    obtain ⟨h4, h5⟩ := partLoad_dep h3 (hc r (by simp only [deepCand, hop, h2]))
    exact ⟨by rw [h4], h5⟩
   ·cases e
  ·cases e
 case store t x v =>
  simp only [aop4, hop] at e ⊢
  rw [hO x (by simp), hO v (by simp)]
  split at e
  ·rename_i ti r b oo m av h1 h2 h3
   split at e
   ·rename_i δ' h4
    cases e
    obtain ⟨h5, h6⟩ := partStore_dep h4 (hc r (by simp only [deepCand, hop, h2]))
    exact ⟨by rw [h5], h6⟩
   ·cases e
  ·cases e
 case call c =>
  obtain ⟨callee, args, tys⟩ := c
  cases callee with
  | value => simp only [aop4, hop] at e; cases e
  | invoke => simp only [aop4, hop] at e; cases e
  | builtin b =>
   have ho : opds st2 args.toList = opds st args.toList := opds_congr fun x hx => hO x (by simp only [Call.operands]; simpa using hx)
   simp only [aop4, hop] at e ⊢
   rw [ho]
   split at e
   ·have h70 := cond_some e
    have h3 := h70.1
    replace e := h70.2
    clear h70
    simp only [h3, cond_true]
    exact deepAppend_dep e H
   ·rename_i t q h1 h2
    split at e
    ·rename_i h3 hg
     cases e
     refine ⟨?_, nil rfl⟩
     rw [H q (by simp), hg]
     simp only [h3]
    ·cases e
   ·cases e
 all_goals (simp only [aop4, hop] at e; cases e)
theorem addHr_spec {q : Nat} {r : Res} {rq : Option Req} {δ : Delta} (e : addHr q r = some (rq, δ)) : ∃ δ0, r = some (rq, δ0) ∧ δ = ⟨δ0.av, δ0.hw, q :: δ0.hr⟩ := by
 cases r with
 | none => cases e
 | some p => obtain ⟨rq0, δ0⟩ := p; cases e; exact ⟨δ0, rfl, rfl⟩
theorem aopA_sound (hT : TabOk P T) (hdep : 4 ≤ P.depth) (R : Rel P w0 fp nt β st a w) (hd : dstOk nt o.dst = true) {rq : Option Req} {δ : Delta} (e : aopA T o st = some (rq, δ)) (hr : ∀ r, rq = some r -> r.p) :
  o.wp P a w (Post P w0 fp nt (st.app o.dst δ)) Q := by
 unfold aopA at e
 split at e
 ·rename_i q _
  cases hb : isDeepB (st.heap q) <;> rw [hb] at e
  ·obtain ⟨δ0, h1, rfl⟩ := addHr_spec e
   have := aopB_sound (Q := Q) hT hdep R hd h1 hr
   exact this
  ·obtain ⟨δ0, h1, rfl⟩ := addHr_spec e
   have := aop4_sound (Q := Q) hT R hd h1 hr
   exact this
 ·exact aop4_sound hT R hd e hr
 ·exact aopB_sound hT hdep R hd e hr
theorem deepCand_dep {st st2 : St} (hO : ∀ x ∈ o.op.operands, opd st2 x = opd st x) : deepCand T o st2 = deepCand T o st := by
 cases hop : o.op <;> rw [hop] at hO <;> simp only [Op.operands] at hO
 case buildSlice t n ps =>
  simp only [deepCand, hop]
  rw [partsAV_congr (by simpa using hO)]
 case call c =>
  obtain ⟨callee, args, tys⟩ := c
  cases callee with
  | value => simp only [deepCand, hop]
  | invoke => simp only [deepCand, hop]
  | builtin b =>
   have ho : opds st2 args.toList = opds st args.toList := opds_congr fun x hx => hO x (by simp only [Call.operands]; simpa using hx)
   cases b <;> simp only [deepCand, hop]
   ·rw [ho]
   ·rw [ho]
 case indexAddr t x i => simp only [deepCand, hop]; rw [hO x (by simp)]
 case nilCheck x => simp only [deepCand, hop]; rw [hO x (by simp)]
 case fieldAddr s x f => simp only [deepCand, hop]; rw [hO x (by simp)]
 case load t x => simp only [deepCand, hop]; rw [hO x (by simp)]
 case store t x v => simp only [deepCand, hop]; rw [hO x (by simp)]
 all_goals simp only [deepCand, hop]
theorem aopA_dep {st st2 : St} {rq : Option Req} {δ : Delta} (e : aopA T o st = some (rq, δ)) (hO : ∀ x ∈ o.op.operands, opd st2 x = opd st x) (H : Same st.heap st2.heap δ.hr) : aopA T o st2 = some (rq, δ) ∧ WIn δ := by
 unfold aopA at e ⊢
 rw [deepCand_dep hO]
 have win : ∀ {q : Nat} {δ0 : Delta}, WIn δ0 -> WIn ⟨δ0.av, δ0.hw, q :: δ0.hr⟩ := fun h r hr => List.mem_cons_of_mem _ (h r hr)
 split at e
 ·rename_i q hq
  cases hb : isDeepB (st.heap q) <;> rw [hb] at e <;> obtain ⟨δ0, h1, rfl⟩ := addHr_spec e
  ·have hqq := H q (by simp)
   obtain ⟨h2, h3⟩ := aopB_dep h1 hO fun r hr => H r (by simp [hr])
   refine ⟨?_, win h3⟩
   rw [hqq, hb, h2]
   rfl
  ·have hqq := H q (by simp)
   obtain ⟨h2, h3⟩ := aop4_dep h1 hO (fun r hr => H r (by simp [hr])) (fun q' hq' => by rw [hq] at hq'; cases hq'; exact hqq)
   refine ⟨?_, win h3⟩
   rw [hqq, hb, h2]
   rfl
 ·rename_i hq
  exact aop4_dep e hO H (fun q' hq' => by rw [hq] at hq'; cases hq')
 ·exact aopB_dep e hO H
end
end Go.Abs
namespace Go.Abs
universe u
open Go.RowKit
def NoPan (δ : Delta) : Prop := ∀ t n, δ.av ≠ .pan t n
def panChain (t : Nat) (n : Int) : List PanicEntry := [{ v := .iface t (.agg #[.int .i64 n]), recovered := false }]
structure EntOk (P : Program) (f : Nat) (e : Ent) : Prop where
 nat : ∀ {ρ : Type} (d : Nat) (l : List AV) (h : HeapT) (k : Delta -> Option ρ), e.k d l h k = (e.k d l h some).bind k
 dep : e.free = true -> ∀ (d : Nat) (l : List AV) (h h' : HeapT) (δ : Delta), e.k d l h some = some δ -> Same h h' δ.hr -> e.k d l h' some = some δ ∧ WIn δ
 call : ∀ {w0 : World} {fp : FP} {nt : Nat} {β : Nat -> Value} {st : St} {a : Act} {w : World} (o : Oper) (d : Nat) (l : List AV) (us : List Value) (δ : Delta) (next : Act -> World -> Prop) (Q : Exit -> Act -> World -> Prop),
  (execOp a.eval o).run P w = (callFunc f us.toArray).run P w -> AVsRel st.heap β w l us -> o.dst = some d -> Rel P w0 fp nt β st a w -> dstOk nt o.dst = true -> e.k d l st.heap some = some δ ->
  (NoPan δ -> ∀ a' w', Post P w0 fp nt (st.app o.dst δ) a' w' -> next a' w') -> (∀ t n, δ.av = .pan t n -> ∀ w', Post P w0 fp nt (st.app none δ) a w' -> Q (.panic (panChain t n)) a w') ->
  o.wp P a w next Q
def EntsOk (P : Program) (E : Nat -> Option Ent) : Prop := ∀ f e, E f = some e -> EntOk P f e
structure Ctx (P : Program) where
 T : Tab
 E : Nat -> Option Ent
 hT : TabOk P T
 hE : EntsOk P E
 hdep : 4 ≤ P.depth
 hord : P.follows .mixedOrders = true
section
variable {P : Program} (C : Ctx P)
def Acts (o : Oper) (st : St) (δ : Delta) : Prop :=
 match calleeOf o.op with
 | some (f, args) => ∃ e l d, C.E f = some e ∧ opds st args = some l ∧ o.dst = some d ∧ e.k d l st.heap some = some δ
 | none => match cloOf st o.op with
  | some (f, args, caps) => ∃ e l d, C.E f = some e ∧ opds st args = some l ∧ o.dst = some d ∧ e.k d (l ++ capPtrs caps) st.heap some = some δ
  | none => ∃ rq, aopA C.T o st = some (rq, δ) ∧ (∀ r, rq = some r -> r.p) ∧ NoPan δ
def freeOp (E : Nat -> Option Ent) (o : Oper) : Bool := match o.op with
 | .call { callee := .value (.func f), .. } => (match E f with | some e => e.free | none => false)
 | .call { callee := .value _, .. } => false
 | _ => true
theorem cloOf_free {E : Nat -> Option Ent} {o : Oper} (h : freeOp E o = true) (st : St) : cloOf st o.op = none := by
 unfold freeOp at h
 unfold cloOf
 split
 ·rename_i t args _ _ ho
  rw [ho] at h
  cases h
 ·rfl
def WantsR (all : Array Oper) (o : Oper) (st : St) (b : Bool) : Prop :=
 match o.guard with
 | none => b = true
 | some (j, want) => ∃ g, (all[j]?).bind (·.dst) = some g ∧ ((∃ c, st.env g = some (.c (.bool c)) ∧ b = (c == want)) ∨ ∃ v, st.env g = some (.c (.val v)) ∧ (∀ c, v ≠ .bool c) ∧ b = false)
inductive StepR (all : Array Oper) (o : Oper) (st : St) : Delta -> Prop
 | run (δ : Delta) (hw : WantsR all o st true) (ha : Acts C o st δ) : StepR all o st δ
 | skip (hw : WantsR all o st false) : StepR all o st skipAV
def footOf (δ : Delta) : Foot := ⟨δ.hr, δ.hw.map (·.1)⟩
theorem aopK_inv {o : Oper} {st : St} {ρ : Type} {k : Delta -> Option ρ} {r : ρ} (e : aopK C.T C.E o st k = some r) : ∃ δ, Acts C o st δ ∧ k δ = some r := by
 unfold aopK at e
 unfold Acts
 split at e
 ·rename_i f args hc
  simp only [hc]
  split at e
  ·rename_i en l d h1 h2 h3
   rw [(C.hE f en h1).nat] at e
   cases hk : en.k d l st.heap some with
   | none => rw [hk] at e; cases e
   | some δ =>
    rw [hk] at e
    exact ⟨δ, ⟨en, l, d, h1, h2, h3, hk⟩, e⟩
  ·cases e
 ·rename_i hc
  simp only [hc]
  split at e
  ·rename_i f args caps hc2
   simp only [hc2]
   split at e
   ·rename_i en l d h1 h2 h3
    rw [(C.hE f en h1).nat] at e
    cases hk : en.k d (l ++ capPtrs caps) st.heap some with
    | none => rw [hk] at e; cases e
    | some δ =>
     rw [hk] at e
     exact ⟨δ, ⟨en, l, d, h1, h2, h3, hk⟩, e⟩
   ·cases e
  ·rename_i hc2
   simp only [hc2]
   split at e
   ·cases e
   ·rename_i δ h1
    split at e
    ·cases e
    ·rename_i h3; exact ⟨δ, ⟨none, h1, by simp, fun t m h => h3 t m h⟩, e⟩
   ·rename_i rq δ h1
    have h2 := rq.d
    by_cases hp : rq.p
    ·rw [if_pos hp] at e
     split at e
     ·cases e
     ·rename_i h3; exact ⟨δ, ⟨some rq, h1, (fun r' h' => by cases h'; exact hp), fun t m h => h3 t m h⟩, e⟩
    ·rw [if_neg hp] at e; cases e
theorem upd_id {α : Type u} {f : Nat -> Option α} {g : Nat} {v : α} (h : f g = some v) : upd f g (some v) = f := by
 funext n
 rw [upd_at]
 split
 ·rename_i e; rw [e, h]
 ·rfl
theorem afterOp_inv {ρ : Type} {δ : Delta} {n : Option ρ} {p : Nat -> Int -> Option ρ} {r : ρ} (e : afterOp δ n p = some r) : (NoPan δ ∧ n = some r) ∨ ∃ t m, δ.av = .pan t m ∧ p t m = some r := by
 unfold afterOp at e
 split at e
 ·rename_i t m h; exact .inr ⟨t, m, h, e⟩
 ·rename_i h; exact .inl ⟨fun t m => h t m, e⟩
theorem execOps_cons {nt : Nat} {all : Array Oper} {ρ : Type} {o : Oper} {rest : List Oper} {st : St} {fs : List Foot} {k : St -> List Foot -> Option ρ} {kp : Nat -> Int -> St -> List Oper -> List Foot -> Option ρ} {r : ρ}
  (e : execOps C.T C.E nt all (o :: rest) st fs k kp = some r) :
  dstOk nt o.dst = true ∧ ∃ δ, StepR C all o st δ ∧ ((NoPan δ ∧ execOps C.T C.E nt all rest (st.app o.dst δ) (footOf δ :: fs) k kp = some r) ∨
   ∃ t m, δ.av = .pan t m ∧ kp t m (st.app none δ) rest (footOf δ :: fs) = some r) := by
 simp only [execOps] at e
 obtain ⟨hd, e⟩ := cond_some e
 refine ⟨hd, ?_⟩
 have nopan : NoPan skipAV := fun t m h => by cases h
 split at e
 ·rename_i hg
  obtain ⟨δ, h1, h2⟩ := aopK_inv C e
  exact ⟨δ, .run δ (by simp [WantsR, hg]) h1, afterOp_inv h2⟩
 ·rename_i j want hg
  split at e
  ·cases e
  ·rename_i g hj
   split at e
   ·rename_i b hb
    split at e
    ·rename_i hbw
     subst hbw
     rw [upd_id hb] at e
     obtain ⟨δ, h1, h2⟩ := aopK_inv C e
     refine ⟨δ, .run δ ?_ h1, afterOp_inv h2⟩
     simp only [WantsR, hg]
     exact ⟨g, hj, .inl ⟨b, hb, by simp⟩⟩
    ·rename_i hbw
     have hbw' : b = !want := by cases b <;> cases want <;> simp_all
     subst hbw'
     rw [upd_id hb] at e
     refine ⟨skipAV, .skip ?_, .inl ⟨nopan, e⟩⟩
     simp only [WantsR, hg]
     exact ⟨g, hj, .inl ⟨!want, hb, by cases want <;> rfl⟩⟩
   ·rename_i v hb
    obtain ⟨hv, e⟩ := cond_some e
    refine ⟨skipAV, .skip ?_, .inl ⟨nopan, e⟩⟩
    simp only [WantsR, hg]
    exact ⟨g, hj, .inr ⟨v, hb, (fun c hc => by subst hc; simp [notBool] at hv), by simp⟩⟩
   ·cases e
theorem WantsR.dep {all : Array Oper} {o : Oper} {st st2 : St} {b : Bool} (h : WantsR all o st b) (hl : ∀ t, t ∈ o.looksAt all -> st2.env t = st.env t) : WantsR all o st2 b := by
 unfold WantsR at *
 split at h
 ·exact h
 ·rename_i j want hg
  obtain ⟨g, h1, h2⟩ := h
  have hm : st2.env g = st.env g := hl g (by simp [Oper.looksAt, hg, h1])
  exact ⟨g, h1, by rw [hm]; exact h2⟩
theorem opd_dep {all : Array Oper} {o : Oper} {st st2 : St} (hl : ∀ t, t ∈ o.looksAt all -> st2.env t = st.env t) {x : Operand} (hx : x ∈ o.op.operands) : opd st2 x = opd st x := by
 cases x with
 | tmp t => exact hl t (List.mem_append_left _ (List.mem_filterMap.2 ⟨.tmp t, by simpa using hx, rfl⟩))
 | const v => rfl
 | global g => rfl
 | func f => rfl
theorem calleeOf_spec {op : Op} {f : Nat} {args : List Operand} (h : calleeOf op = some (f, args)) : ∃ c, op = .call c ∧ c.callee = .value (.func f) ∧ args = c.args.toList := by
 unfold calleeOf at h
 split at h
 ·cases h; exact ⟨_, rfl, rfl, rfl⟩
 ·cases h
theorem Acts.dep {all : Array Oper} {o : Oper} {st st2 : St} {δ : Delta} (hf : freeOp C.E o = true) (h : Acts C o st δ) (hl : ∀ t, t ∈ o.looksAt all -> st2.env t = st.env t) (hs : Same st.heap st2.heap δ.hr) : Acts C o st2 δ ∧ WIn δ := by
 unfold Acts at *
 split at h
 ·rename_i f args hc
  obtain ⟨e, l, d, h1, h2, h3, h4⟩ := h
  obtain ⟨c, hop, hcal, rfl⟩ := calleeOf_spec hc
  have ho : opds st2 c.args.toList = opds st c.args.toList := opds_congr fun x hx => opd_dep (all := all) (o := o) hl (by rw [hop]; simp only [Op.operands, Call.operands, hcal]; simp at hx; simp [hx])
  have hfr : e.free = true := by
   unfold freeOp at hf
   rw [hop] at hf
   obtain ⟨callee, as, ats⟩ := c
   simp only at hcal
   subst hcal
   simp only [h1] at hf
   exact hf
  obtain ⟨h5, h6⟩ := (C.hE f e h1).dep hfr _ _ _ st2.heap _ h4 hs
  exact ⟨⟨e, l, d, h1, by rw [ho]; exact h2, h3, h5⟩, h6⟩
 ·rename_i hc
  rw [cloOf_free hf] at h
  simp only [cloOf_free hf]
  obtain ⟨rq, h1, h2⟩ := h
  obtain ⟨h3, h4⟩ := aopA_dep h1 (fun x hx => opd_dep (all := all) hl hx) hs
  exact ⟨⟨rq, h3, h2⟩, h4⟩
theorem StepR.dep {all : Array Oper} {o : Oper} {st st2 : St} {δ : Delta} (hf : freeOp C.E o = true) (h : StepR C all o st δ) (hl : ∀ t, t ∈ o.looksAt all -> st2.env t = st.env t) (hs : Same st.heap st2.heap δ.hr) : StepR C all o st2 δ ∧ WIn δ := by
 cases h with
 | run δ hw ha =>
  obtain ⟨h1, h2⟩ := ha.dep C hf hl hs
  exact ⟨.run δ (hw.dep hl) h1, h2⟩
 | skip hw => exact ⟨.skip (hw.dep hl), .nil⟩
theorem heapPut_ne {hw : List (Nat × Reg)} {r : Nat} : ∀ {h : HeapT}, r ∉ hw.map (·.1) -> heapPut h hw r = h r := by
 induction hw with
 | nil => exact fun _ => rfl
 | cons p l ih =>
  obtain ⟨q, g⟩ := p
  intro h hr
  simp only [List.map_cons, List.mem_cons, not_or] at hr
  simp only [heapPut]
  rw [ih hr.2, upd_ne _ _ hr.1]
theorem upd_comm {α : Type u} (f : Nat -> α) {a b : Nat} (x y : α) (h : a ≠ b) : upd (upd f a x) b y = upd (upd f b y) a x := by
 funext n
 simp only [upd_at]
 by_cases h1 : n = a <;> by_cases h2 : n = b <;> simp_all
theorem heapPut_upd {hw : List (Nat × Reg)} {r : Nat} {g : Option Reg} : ∀ {h : HeapT}, r ∉ hw.map (·.1) -> heapPut (upd h r g) hw = upd (heapPut h hw) r g := by
 induction hw with
 | nil => exact fun _ => rfl
 | cons p l ih =>
  obtain ⟨q, g'⟩ := p
  intro h hr
  simp only [List.map_cons, List.mem_cons, not_or] at hr
  simp only [heapPut]
  rw [upd_comm _ _ _ hr.1, ih hr.2]
theorem heapPut_comm {hw hw' : List (Nat × Reg)} : ∀ {h : HeapT}, (∀ r, r ∈ hw.map (·.1) -> r ∉ hw'.map (·.1)) -> heapPut (heapPut h hw) hw' = heapPut (heapPut h hw') hw := by
 induction hw with
 | nil => exact fun _ => rfl
 | cons p l ih =>
  obtain ⟨q, g'⟩ := p
  intro h hr
  simp only [heapPut]
  rw [ih (fun r h' => hr r (by simp only [List.map_cons, List.mem_cons]; exact .inr h')), heapPut_upd (hr q (by simp))]
theorem memB_iff {n : Nat} : ∀ {l : List Nat}, memB n l = true ↔ n ∈ l := by
 intro l
 induction l with
 | nil => simp [memB]
 | cons x l ih =>
  simp only [memB, Bool.or_eq_true, ih, List.mem_cons]
  exact ⟨fun h => h.imp (fun h => Nat.eq_of_beq_eq_true h) id, fun h => h.imp (fun h => by rw [h]; exact Nat.beq_refl x) id⟩
theorem disj_iff {a b : List Nat} : disj a b = true ↔ ∀ x, x ∈ a -> x ∉ b := by
 simp only [disj, List.all_eq_true, Bool.not_eq_true', <- Bool.not_eq_true, memB_iff]
theorem swap {all : Array Oper} {x y : Oper} {st : St} {δx δy : Delta} (fx : freeOp C.E x = true) (fy : freeOp C.E y = true) (hx : StepR C all x st δx) (hy : StepR C all y (st.app x.dst δx) δy) (hi : indepB all x y (footOf δx) (footOf δy) = true) :
  StepR C all y st δy ∧ StepR C all x (st.app y.dst δy) δx ∧ (st.app x.dst δx).app y.dst δy = (st.app y.dst δy).app x.dst δx := by
 simp only [indepB, Bool.and_eq_true, disj_iff, footOf] at hi
 obtain ⟨⟨hap, h1⟩, h2⟩ := hi
 obtain ⟨a1, a2, a3⟩ := Oper.apart_spec hap
 have envx : ∀ t, t ∈ y.looksAt all -> st.env t = (st.app x.dst δx).env t := by
  intro t ht
  simp only [St.app, putEnv]
  cases hd : x.dst with
  | none => rfl
  | some d =>
   have : t ≠ d := fun h => a1 d hd (h ▸ ht)
   exact (upd_ne _ _ this).symm
 have heapx : Same (st.app x.dst δx).heap st.heap δy.hr := by
  intro r hr
  simp only [St.app]
  rw [heapPut_ne (fun h => h1 r h hr)]
 obtain ⟨hy', wy⟩ := hy.dep C fy envx heapx
 have envy : ∀ t, t ∈ x.looksAt all -> (st.app y.dst δy).env t = st.env t := by
  intro t ht
  simp only [St.app, putEnv]
  cases hd : y.dst with
  | none => rfl
  | some d =>
   have : t ≠ d := fun h => a3 d hd (h ▸ ht)
   exact upd_ne _ _ this
 have heapy : Same st.heap (st.app y.dst δy).heap δx.hr := by
  intro r hr
  simp only [St.app]
  rw [heapPut_ne (fun h => h2 r h hr)]
 obtain ⟨hx', wx⟩ := hx.dep C fx envy heapy
 refine ⟨hy', hx', ?_⟩
 simp only [St.app]
 congr 1
 ·cases hdx : x.dst with
  | none => rfl
  | some d =>
   cases hdy : y.dst with
   | none => rfl
   | some d' =>
    simp only [putEnv]
    exact upd_comm _ _ _ (fun h => a2 d hdx (by rw [hdy, h]))
 ·exact heapPut_comm (fun r hr hr' => h1 r hr (wy r hr'))
section
variable {w0 : World} {fp : FP} {nt : Nat} {st st' : St} {a : Act} {w : World} {all : Array Oper} {Q : Exit -> Act -> World -> Prop}
theorem wants_rel {β : Nat -> Value} (R : Rel P w0 fp nt β st a w) {o : Oper} {b : Bool} (h : WantsR all o st b) : Region.wanted o (yielded all a.tmps) = b := by
 unfold WantsR at h
 unfold Region.wanted
 split at h
 ·rename_i hg; simp [hg, h]
 ·rename_i j want hg
  simp only [hg]
  obtain ⟨g, h1, h2⟩ := h
  unfold yielded
  rw [h1]
  simp only [Option.bind_some]
  rcases h2 with ⟨c, hc, rfl⟩ | ⟨v, hv, hn, rfl⟩
  ·have := R.env g _ hc
   simp only [AVRel, CVRel, Array.getD_eq_getD_getElem?] at this
   cases ht : a.tmps[g]? with
   | none => rw [ht] at this; cases this
   | some x =>
    rw [ht] at this
    simp only [Option.getD_some] at this
    subst this
    cases c <;> cases want <;> rfl
  ·have := R.env g _ hv
   simp only [AVRel, CVRel, Array.getD_eq_getD_getElem?] at this
   cases ht : a.tmps[g]? with
   | none => rfl
   | some x =>
    rw [ht] at this
    simp only [Option.getD_some] at this
    subst this
    split
    ·rename_i b hb; cases hb; exact absurd rfl (hn b)
    ·rfl
theorem cap_rel {st : St} {β : Nat -> Value} {a : Act} {w : World} (R : Rel P w0 fp nt β st a w) {t f : Nat} {caps : List Nat} (h : st.env t = some (.c (.clo f caps))) :
  ∃ vs : List Value, a.tmps.getD t undef = .func (.func f) #[] vs.toArray ∧ AVsRel st.heap β w (capPtrs caps) vs := by
 have h1 := R.env t _ h
 simp only [AVRel, CVRel] at h1
 obtain ⟨vs, hv, hl, H⟩ := h1
 refine ⟨vs, hv, ?_⟩
 clear hv h
 induction caps generalizing vs with
 | nil => cases vs with
  | nil => simp [capPtrs, AVsRel]
  | cons => simp at hl
 | cons r caps ih =>
  cases vs with
  | nil => simp at hl
  | cons v vs =>
   simp only [capPtrs, List.map_cons, AVsRel]
   refine ⟨v, vs, rfl, ?_, ih vs (by simpa using hl) fun i r hi => ?_⟩
   ·obtain ⟨u, g, hu, hg, hp⟩ := H 0 r rfl
    cases hu
    simp only [AVRel, CVRel]
    exact ⟨g, hg, hp⟩
   ·exact H (i + 1) r (by simpa using hi)
theorem AVsRel.append {h : HeapT} {β : Nat -> Value} {w : World} : ∀ {l l' : List AV} {vs vs' : List Value}, AVsRel h β w l vs -> AVsRel h β w l' vs' -> AVsRel h β w (l ++ l') (vs ++ vs') := by
 intro l
 induction l with
 | nil => intro l' vs vs' h1 h2; simp only [AVsRel] at h1; subst h1; exact h2
 | cons x l ih =>
  intro l' vs vs' h1 h2
  simp only [AVsRel] at h1
  obtain ⟨v, r, rfl, hv, hr⟩ := h1
  simp only [List.cons_append, AVsRel]
  exact ⟨v, r ++ vs', rfl, hv, ih hr h2⟩
theorem cloOf_spec {st : St} {op : Op} {f : Nat} {args : List Operand} {caps : List Nat} (h : cloOf st op = some (f, args, caps)) : ∃ c t, op = .call c ∧ c.callee = .value (.tmp t) ∧ args = c.args.toList ∧ st.env t = some (.c (.clo f caps)) := by
 unfold cloOf at h
 split at h
 ·split at h
  ·rename_i h1; cases h; exact ⟨_, _, rfl, rfl, rfl, h1⟩
  ·cases h
 ·cases h
theorem execOp_call_clo {a : Act} {o : Oper} {t f : Nat} {as : Array Operand} {ats : Array TypeId} {vs : Array Value} (hop : o.op = .call { callee := .value (.tmp t), args := as, argTypes := ats }) (hv : a.tmps.getD t undef = .func (.func f) #[] vs) :
  execOp a.eval o = callFunc f (as.map a.eval ++ vs) := by
 have ef : a.eval (.tmp t) = .func (.func f) #[] vs := hv
 unfold execOp
 simp [hop, resolve, Deferred.ofValue, invoke, ef]
theorem step_sound {o : Oper} {δ : Delta} {next : Act -> World -> Prop} (h : StepR C all o st δ) (hd : dstOk nt o.dst = true) (hp : Post P w0 fp nt st a w)
  (hn : NoPan δ -> ∀ a' w', Post P w0 fp nt (st.app o.dst δ) a' w' -> next a' w') (hpn : ∀ t n, δ.av = .pan t n -> ∀ w', Post P w0 fp nt (st.app none δ) a w' -> Q (.panic (panChain t n)) a w') :
  if Region.wanted o (yielded all a.tmps) then o.wp P a w next Q ∨ (o.asks P a w ∧ LetsOut Q) else next (a.put o.dst undef) w := by
 obtain ⟨β, R⟩ := hp
 cases h with
 | run δ hw ha =>
  rw [wants_rel R hw]
  simp only [if_true]
  left
  unfold Acts at ha
  split at ha
  ·rename_i f args hc
   obtain ⟨e, l, d, h1, h2, h3, h4⟩ := ha
   obtain ⟨cc, hop, hcc, rfl⟩ := calleeOf_spec hc
   obtain ⟨callee, as, ats⟩ := cc
   simp only at hcc
   subst hcc
   refine (C.hE f e h1).call o d l (as.toList.map a.eval) δ next Q ?_ (opds_rel R h2) h3 R hd h4 hn hpn
   rw [Conc.execOp_call_func (a := a) hop]
   congr 2
   apply Array.toList_inj.1
   simp
  ·split at ha
   ·rename_i f args caps hc
    obtain ⟨e, l, d, h1, h2, h3, h4⟩ := ha
    obtain ⟨cc, t, hop, hcc, rfl, ht⟩ := cloOf_spec hc
    obtain ⟨callee, as, ats⟩ := cc
    simp only at hcc
    subst hcc
    obtain ⟨vs, hv, hcap⟩ := cap_rel R ht
    refine (C.hE f e h1).call o d (l ++ capPtrs caps) (as.toList.map a.eval ++ vs) δ next Q ?_ ((opds_rel R h2).append hcap) h3 R hd h4 hn hpn
    rw [execOp_call_clo (a := a) hop hv]
    congr 2
    apply Array.toList_inj.1
    simp
   ·obtain ⟨rq, h1, h2, h3⟩ := ha
    exact Oper.wp_mono (hn h3) (aopA_sound C.hT C.hdep R hd h1 h2)
 | skip hw =>
  rw [wants_rel R hw]
  simp only [Bool.false_eq_true, if_false]
  exact hn (fun t n h => by cases h) _ _ ⟨β, R.pure hd (by simp only [AVRel, CVRel, undef])⟩
abbrev Ran := Nat × Oper × Delta
def TraceR (all : Array Oper) : St -> List Ran -> St -> Prop
 | st, [], st' => st' = st
 | st, (_, o, δ) :: l, st' => StepR C all o st δ ∧ TraceR all (st.app o.dst δ) l st'
theorem execOps_trace {ρ : Type} : ∀ {ops : List Oper} {st : St} {fs : List Foot} {i : Nat} {k : St -> List Foot -> Option ρ} {kp : Nat -> Int -> St -> List Oper -> List Foot -> Option ρ} {r : ρ}, execOps C.T C.E nt all ops st fs k kp = some r ->
  (∃ (L : List Ran) (st' : St), L.map (·.2.1) = ops ∧ L.map (·.1) = (List.range' i ops.length) ∧ (∀ x ∈ L, dstOk nt x.2.1.dst = true ∧ NoPan x.2.2) ∧ TraceR C all st L st' ∧ k st' ((L.map fun x => footOf x.2.2).reverse ++ fs) = some r) ∨
  ∃ (L : List Ran) (st' : St) (o : Oper) (δ : Delta) (rest : List Oper) (t : Nat) (m : Int), ops = L.map (·.2.1) ++ o :: rest ∧ L.map (·.1) = List.range' i L.length ∧ (∀ x ∈ L, dstOk nt x.2.1.dst = true ∧ NoPan x.2.2) ∧ dstOk nt o.dst = true ∧ TraceR C all st L st' ∧
   StepR C all o st' δ ∧ δ.av = .pan t m ∧ kp t m (st'.app none δ) rest (footOf δ :: ((L.map fun x => footOf x.2.2).reverse ++ fs)) = some r := by
 intro ops
 induction ops with
 | nil => intro st fs i k kp r e; exact .inl ⟨[], st, rfl, rfl, by simp, rfl, e⟩
 | cons o ops ih =>
  intro st fs i k kp r e
  obtain ⟨hd, δ, hs, h0 | ⟨t, m, hp, h0⟩⟩ := execOps_cons C e
  ·obtain ⟨hnp, e'⟩ := h0
   rcases ih (i := i + 1) e' with ⟨L, st', h1, h2, h3, h4, h5⟩ | ⟨L, st', o', δ', rest, t, m, h1, h2, h3, h4, h5, h6, h7, h8⟩
   ·refine .inl ⟨(i, o, δ) :: L, st', by simp [h1], by simp [h2, List.range'_succ], ?_, ⟨hs, h4⟩, by simpa using h5⟩
    intro x hx
    rcases List.mem_cons.1 hx with rfl | hx
    ·exact ⟨hd, hnp⟩
    ·exact h3 x hx
   ·refine .inr ⟨(i, o, δ) :: L, st', o', δ', rest, t, m, by simp [h1], by simp [h2, List.range'_succ], ?_, h4, ⟨hs, h5⟩, h6, h7, by simpa using h8⟩
    intro x hx
    rcases List.mem_cons.1 hx with rfl | hx
    ·exact ⟨hd, hnp⟩
    ·exact h3 x hx
  ·exact .inr ⟨[], st, o, δ, ops, t, m, rfl, rfl, by simp, hd, rfl, hs, hp, by simpa using h0⟩
theorem wpOps_trace {is : List Nat} : ∀ {L : List Ran} {st : St} {a : Act} {w : World}, (∀ x ∈ L, all[x.1]? = some x.2.1) -> (∀ x ∈ L, dstOk nt x.2.1.dst = true ∧ NoPan x.2.2) -> TraceR C all st L st' -> Post P w0 fp nt st a w ->
  (∀ a w, Post P w0 fp nt st' a w -> wpOps P all Q is a w) -> wpOps P all Q (L.map (·.1) ++ is) a w := by
 intro L
 induction L with
 | nil => intro st a w _ _ ht hp hq; cases ht; exact hq a w hp
 | cons x L ih =>
  obtain ⟨i, o, δ⟩ := x
  intro st a w hi hd ht hp hq
  have hK : ∀ a w, Post P w0 fp nt (st.app o.dst δ) a w -> wpOps P all Q (L.map (·.1) ++ is) a w := fun a w h =>
   ih (fun x hx => hi x (by simp [hx])) (fun x hx => hd x (by simp [hx])) ht.2 h hq
  simp only [List.map_cons, List.cons_append]
  rw [wpOps_cons]
  unfold wpOp
  rw [hi (i, o, δ) (by simp)]
  simp only []
  have hnp := (hd (i, o, δ) (by simp)).2
  exact step_sound C (Q := Q) ht.1 (hd (i, o, δ) (by simp)).1 hp (fun _ => hK) (fun t n h => absurd h (hnp t n))
theorem wpOps_pan {i : Nat} {is : List Nat} {o : Oper} {δ : Delta} {t : Nat} {m : Int} {st : St} {a : Act} {w : World} (hi : all[i]? = some o) (hd : dstOk nt o.dst = true) (hs : StepR C all o st δ) (hpan : δ.av = .pan t m) (hp : Post P w0 fp nt st a w)
  (hq : ∀ w', Post P w0 fp nt (st.app none δ) a w' -> Q (.panic (panChain t m)) a w') : wpOps P all Q (i :: is) a w := by
 rw [wpOps_cons]
 unfold wpOp
 rw [hi]
 simp only []
 have hw : Region.wanted o (yielded all a.tmps) = true := by
  obtain ⟨β, R⟩ := hp
  cases hs with
  | run δ hw ha => exact wants_rel R hw
  | skip hw => cases hpan
 have := step_sound C (Q := Q) (next := fun _ _ => False) hs hd hp (fun h => absurd hpan (h t m)) (fun t' m' h w' hp' => by rw [hpan] at h; cases h; exact hq w' hp')
 rw [if_pos hw] at this ⊢
 exact this.imp (Oper.wp_mono (fun _ _ h => h.elim)) id
def RanIndep (all : Array Oper) (x y : Ran) : Prop := indepB all x.2.1 y.2.1 (footOf x.2.2) (footOf y.2.2) = true
theorem trace_front : ∀ {pre : List Ran} {st : St} {x : Ran} {post : List Ran}, (∀ y ∈ pre ++ [x], freeOp C.E y.2.1 = true) -> TraceR C all st (pre ++ x :: post) st' -> (∀ y ∈ pre, RanIndep all y x) ->
  StepR C all x.2.1 st x.2.2 ∧ TraceR C all (st.app x.2.1.dst x.2.2) (pre ++ post) st' := by
 intro pre
 induction pre with
 | nil => intro st x post _ h _; exact h
 | cons y pre ih =>
  intro st x post hf h hi
  obtain ⟨hy, h⟩ := h
  obtain ⟨h1, h2⟩ := ih (fun z hz => hf z (by simp at hz ⊢; exact .inr hz)) h (fun z hz => hi z (by simp [hz]))
  obtain ⟨h3, h4, h5⟩ := swap C (hf y (by simp)) (hf x (by simp)) hy h1 (hi y (by simp))
  refine ⟨h3, h4, ?_⟩
  rw [<- h5]
  exact h2
def Closed (all : Array Oper) (listed : Array Bool) : Prop := ∀ (j : Nat) (o : Oper), all[j]? = some o -> listed.getD j true = true -> ∀ e ∈ o.after, Region.binds .any e = true -> listed.getD e.on false = true
theorem waits_iff {o : Oper} {l : List Nat} : waits o l = true ↔ ∃ e ∈ o.after, Region.binds .any e = true ∧ e.on ∈ l := by
 unfold waits
 rw [<- Array.any_toList, List.any_eq_true]
 constructor
 ·rintro ⟨e, he, h⟩
  simp only [Bool.and_eq_true, memB_iff] at h
  exact ⟨e, by simpa using he, h⟩
 ·rintro ⟨e, he, h⟩
  exact ⟨e, by simpa using he, by simp only [Bool.and_eq_true, memB_iff]; exact h⟩
theorem freeOf_spec {x : Oper} {fx : Foot} {U : Nat -> Prop} : ∀ {ys : List Oper} {fys : List Foot} {dep : List Nat} {j : Nat}, freeOf all x fx dep j ys fys = true -> (∀ d ∈ dep, U d) ->
  (∀ (m : Nat) (y : Oper), ys[m]? = some y -> (∃ e ∈ y.after, Region.binds .any e = true ∧ U e.on) -> U (j + m)) ->
  ∀ (m : Nat) (y : Oper) (fy : Foot), ys[m]? = some y -> fys[m]? = some fy -> (∀ e ∈ y.after, Region.binds .any e = true -> ¬ U e.on) -> indepB all x y fx fy = true := by
 intro ys
 induction ys with
 | nil => intro fys dep j _ _ _ m y fy hy; simp at hy
 | cons y ys ih =>
  intro fys dep j h hd hc m z fz hz hfz hn
  cases fys with
  | nil => simp at hfz
  | cons fy fys =>
   simp only [freeOf] at h
   have hc' : ∀ (m : Nat) (y : Oper), ys[m]? = some y -> (∃ e ∈ y.after, Region.binds .any e = true ∧ U e.on) -> U (j + 1 + m) := by
    intro m y hy he
    have := hc (m + 1) y (by simpa using hy) he
    rwa [show j + 1 + m = j + (m + 1) by omega]
   cases hw : waits y dep with
   | true =>
    rw [hw] at h
    simp only [cond_true] at h
    obtain ⟨e, he1, he2, he3⟩ := waits_iff.1 hw
    have hUj : U j := by
     have := hc 0 y (by simp) ⟨e, he1, he2, hd _ he3⟩
     simpa using this
    cases m with
    | zero =>
     simp at hz
     subst hz
     exact absurd (hd _ he3) (hn e he1 he2)
    | succ m =>
     exact ih h (by intro d hd'; rcases List.mem_cons.1 hd' with rfl | h'; exact hUj; exact hd d h') hc' m z fz (by simpa using hz) (by simpa using hfz) hn
   | false =>
    rw [hw] at h
    simp only [cond_false, Bool.and_eq_true] at h
    cases m with
    | zero =>
     simp at hz hfz
     subst hz hfz
     exact h.1
    | succ m =>
     exact ih h.2 hd hc' m z fz (by simpa using hz) (by simpa using hfz) hn
theorem orderOk_spec : ∀ {xs : List Oper} {fs : List Foot} {i : Nat}, orderOk all i xs fs = true ->
  (∀ (m : Nat) (x : Oper), xs[m]? = some x -> edgesBack (i + m) x = true) ∧ xs.length = fs.length ∧
  ∀ (m : Nat) (x : Oper) (fx : Foot), xs[m]? = some x -> fs[m]? = some fx -> freeOf all x fx [i + m] (i + m + 1) (xs.drop (m + 1)) (fs.drop (m + 1)) = true := by
 intro xs
 induction xs with
 | nil => intro fs i h; cases fs with
  | nil => simp
  | cons => simp [orderOk] at h
 | cons x xs ih =>
  intro fs i h
  cases fs with
  | nil => simp [orderOk] at h
  | cons fx fs =>
   simp only [orderOk, Bool.and_eq_true] at h
   obtain ⟨⟨h1, h2⟩, h3⟩ := h
   obtain ⟨h4, h5, h6⟩ := ih h3
   refine ⟨?_, by simp [h5], ?_⟩
   ·intro m y hy
    cases m with
    | zero => simp at hy; subst hy; exact h1
    | succ m => have := h4 m y (by simpa using hy); rwa [show i + (m + 1) = i + 1 + m by omega]
   ·intro m y fy hy hfy
    cases m with
    | zero => simp at hy hfy; subst hy hfy; simpa using h2
    | succ m => have := h6 m y fy (by simpa using hy) (by simpa using hfy); rw [show i + (m + 1) = i + 1 + m by omega]; simpa using this
structure Rest (all : Array Oper) (listed : Array Bool) (L : List Ran) (B : Nat) : Prop where
 mem : ∀ x ∈ L, all[x.1]? = some x.2.1 ∧ listed.getD x.1 true = false
 cov : ∀ i, i < all.size -> listed.getD i true = false -> (∃ x ∈ L, x.1 = i) ∨ B ≤ i
 tail : ∀ (j : Nat) (o : Oper), B ≤ j -> all[j]? = some o -> ∃ e ∈ o.after, Region.binds .any e = true ∧ (B ≤ e.on ∨ e.on + 1 = B) ∧ e.on < j
 tl : ∀ j, B ≤ j -> j < all.size -> listed.getD j true = false
 last : B < all.size -> ∃ x ∈ L, x.1 + 1 = B ∧ ¬ NoPan x.2.2
 below : ∀ x ∈ L, x.1 < B
 sorted : (L.map (·.1)).Pairwise (· < ·)
 size : listed.size = all.size
 closed : Closed all listed
 back : ∀ (i : Nat) (o : Oper), all[i]? = some o -> edgesBack i o = true
 indep : ∀ (U : Nat -> Prop), (∀ (j : Nat) (y : Oper), all[j]? = some y -> (∃ e ∈ y.after, Region.binds .any e = true ∧ U e.on) -> U j) ->
  ∀ x ∈ L, ∀ y ∈ L, x.1 < y.1 -> U x.1 -> (∀ e ∈ y.2.1.after, Region.binds .any e = true -> ¬ U e.on) -> RanIndep all x y
theorem ready_iff {listed : Array Bool} {i : Nat} : i ∈ Region.ready .any all listed ↔ ∃ o, all[i]? = some o ∧ listed.getD i true = false ∧ ∀ e ∈ o.after, Region.binds .any e = true -> listed.getD e.on false = true := by
 unfold Region.ready
 simp only [List.mem_filter, List.mem_range, Bool.and_eq_true, Bool.not_eq_true']
 constructor
 ·rintro ⟨h1, h2, h3⟩
  refine ⟨all[i], by simp [h1], h2, ?_⟩
  rw [Array.getElem?_eq_getElem h1] at h3
  simp only [Option.map_some, Option.getD_some] at h3
  rw [<- Array.all_toList, List.all_eq_true] at h3
  intro e he hb
  have := h3 e (by simpa using he)
  simpa [hb] using this
 ·rintro ⟨o, h1, h2, h3⟩
  have hi : i < all.size := (Array.getElem?_eq_some_iff.1 h1).1
  refine ⟨hi, h2, ?_⟩
  rw [h1]
  simp only [Option.map_some, Option.getD_some]
  rw [<- Array.all_toList, List.all_eq_true]
  intro e he
  cases hb : Region.binds .any e with
  | false => simp
  | true => simpa using h3 e (by simpa using he) hb
theorem Rest.pick {listed : Array Bool} {L : List Ran} {B : Nat} (hr : Rest all listed L B) {i : Nat} (hi : i ∈ Region.ready .any all listed) : ∃ x ∈ L, x.1 = i := by
 obtain ⟨o, h1, h2, h3⟩ := ready_iff.1 hi
 have hisz : i < all.size := (Array.getElem?_eq_some_iff.1 h1).1
 rcases hr.cov i hisz h2 with h | h
 ·exact h
 ·exfalso
  obtain ⟨e, he, hb, hon, hlt⟩ := hr.tail i o h h1
  have hl := h3 e he hb
  have hsz : e.on < listed.size := by rw [hr.size]; omega
  have key : listed.getD e.on true = true := by
   rw [Array.getD_eq_getD_getElem?, Array.getElem?_eq_getElem hsz] at hl ⊢
   simpa using hl
  rcases hon with h' | h'
  ·rw [hr.tl e.on h' (by omega)] at key; cases key
  ·obtain ⟨x, hx, hxb, _⟩ := hr.last (by omega)
   have := (hr.mem x hx).2
   rw [show x.1 = e.on by omega] at this
   rw [this] at key; cases key
theorem Rest.nil {listed : Array Bool} {L : List Ran} {B : Nat} (hr : Rest all listed L B) (h0 : Region.ready .any all listed = []) : L = [] := by
 cases L with
 | nil => rfl
 | cons x L =>
  exfalso
  have hx := hr.mem x (by simp)
  have : x.1 ∈ Region.ready .any all listed := by
   rw [ready_iff]
   refine ⟨x.2.1, hx.1, hx.2, fun e he hb => ?_⟩
   have hbk := hr.back _ _ hx.1
   unfold edgesBack at hbk
   rw [<- Array.all_toList, List.all_eq_true] at hbk
   have h1 := hbk e (by simpa using he)
   simp only [hb, Bool.not_true, Bool.false_or, nblt] at h1
   have hi : x.1 < all.size := (Array.getElem?_eq_some_iff.1 hx.1).1
   have hlt : e.on < listed.size := by rw [hr.size]; omega
   cases hl : listed.getD e.on true with
   | true =>
    rw [Array.getD_eq_getD_getElem?, Array.getElem?_eq_getElem hlt] at hl ⊢
    simpa using hl
   | false =>
    rcases hr.cov e.on (by omega) hl with ⟨y, hy, hye⟩ | hB
    ·rcases List.mem_cons.1 hy with rfl | hy
     ·omega
     ·have hs := hr.sorted
      simp only [List.map_cons, List.pairwise_cons] at hs
      have := hs.1 y.1 (List.mem_map.2 ⟨y, hy, rfl⟩)
      omega
    ·have := hr.below x (by simp)
     omega
  rw [h0] at this
  simp at this
theorem wpAny_trace {B : Nat} {J : St -> Prop} : ∀ {n : Nat} {listed : Array Bool} {L : List Ran} {st : St} {a : Act} {w : World}, L.length ≤ n -> Rest all listed L B -> (∀ x ∈ L, dstOk nt x.2.1.dst = true ∧ freeOp C.E x.2.1 = true) -> TraceR C all st L st' -> Post P w0 fp nt st a w ->
  J st -> (∀ x ∈ L, NoPan x.2.2 -> ∀ st, J st -> J (st.app x.2.1.dst x.2.2)) -> (∀ x ∈ L, ∀ t m, x.2.2.av = .pan t m -> ∀ st1 a w', J st1 -> Post P w0 fp nt (st1.app none x.2.2) a w' -> Q (.panic (panChain t m)) a w') ->
  ((∀ x ∈ L, NoPan x.2.2) -> ∀ a w, Post P w0 fp nt st' a w -> Q .normal a w) -> wpAny P .any all Q n listed a w := by
 intro n
 induction n with
 | zero =>
  intro listed L st a w hn hr hd ht hp hj hJ hpn hq
  have hL : L = [] := by simpa using hn
  subst hL
  cases ht
  refine ⟨?_, hq (by simp) a w hp⟩
  cases h : Region.ready .any all listed with
  | nil => rfl
  | cons i l =>
   exfalso
   obtain ⟨x, hx, _⟩ := hr.pick (i := i) (by rw [h]; simp)
   simp at hx
 | succ n ih =>
  intro listed L st a w hn hr hd ht hp hj hJ hpn hq
  refine ⟨fun h0 => ?_, fun i hi => ?_⟩
  ·have hL := hr.nil h0
   subst hL
   cases ht
   exact hq (by simp) a w hp
  ·obtain ⟨o, h1, h2, h3⟩ := ready_iff.1 hi
   have hisz : i < all.size := (Array.getElem?_eq_some_iff.1 h1).1
   obtain ⟨x, hx, hxi⟩ := hr.pick hi
   obtain ⟨pre, post, rfl⟩ := List.append_of_mem hx
   obtain ⟨i', o', δ⟩ := x
   simp only at hxi
   subst hxi
   have ho : o' = o := by
    have := (hr.mem _ hx).1
    simp only at this
    rw [h1] at this
    exact (Option.some.inj this).symm
   subst ho
   have hpre : ∀ y ∈ pre, RanIndep all y (i', o', δ) := by
    intro y hy
    have hym : y ∈ pre ++ (i', o', δ) :: post := by simp [hy]
    have hlt : y.1 < i' := by
     have hs := hr.sorted
     simp only [List.map_append, List.map_cons, List.pairwise_append] at hs
     exact hs.2.2 y.1 (List.mem_map.2 ⟨y, hy, rfl⟩) i' (by simp)
    refine hr.indep (fun j => listed.getD j false = false) ?_ y hym _ hx hlt ?_ ?_
    ·intro j z hz ⟨e, he, hb, hu⟩
     have hj : j < all.size := (Array.getElem?_eq_some_iff.1 hz).1
     have hj' : j < listed.size := by rw [hr.size]; exact hj
     cases hl : listed.getD j true with
     | true =>
      have := hr.closed j z hz hl e he hb
      rw [this] at hu
      cases hu
     | false =>
      rw [Array.getD_eq_getD_getElem?, Array.getElem?_eq_getElem hj'] at hl ⊢
      simpa using hl
    ·have hl := (hr.mem y hym).2
     have hj : y.1 < listed.size := by rw [hr.size]; exact (Array.getElem?_eq_some_iff.1 (hr.mem y hym).1).1
     show listed.getD y.1 false = false
     rw [Array.getD_eq_getD_getElem?, Array.getElem?_eq_getElem hj] at hl ⊢
     simpa using hl
    ·intro e he hb hu
     have := h3 e he hb
     rw [this] at hu
     cases hu
   obtain ⟨h4, h5⟩ := trace_front C (fun y hy => (hd y (by simp at hy ⊢; rcases hy with h | h <;> simp [h])).2) ht hpre
   have hgetD : ∀ j d, (listed.setIfInBounds i' true).getD j d = if i' = j then true else listed.getD j d := by
    intro j d
    have hi' : i' < listed.size := by rw [hr.size]; exact hisz
    rw [Array.getD_eq_getD_getElem?, Array.getD_eq_getD_getElem?]
    by_cases e : i' = j
    ·subst e; simp [hi']
    ·rw [Array.getElem?_setIfInBounds_ne e, if_neg e]
   have hsrt := hr.sorted
   simp only [List.map_append, List.map_cons] at hsrt
   have hsub : ∀ x ∈ pre ++ post, x ∈ pre ++ (i', o', δ) :: post := fun x hx' => by simp at hx' ⊢; rcases hx' with h | h <;> simp [h]
   have hK : NoPan δ -> ∀ a w, Post P w0 fp nt (st.app o'.dst δ) a w -> wpAny P .any all Q n (listed.setIfInBounds i' true) a w := by
    intro hnp a w hp'
    refine ih (L := pre ++ post) (by simp at hn ⊢; omega) ?_ (fun x hx => hd x (hsub x hx)) h5 hp' (hJ _ hx hnp st hj) (fun x hx' => hJ x (hsub x hx')) (fun x hx' => hpn x (hsub x hx')) ?_
    rotate_left
    ·intro hall
     refine hq fun x hx' => ?_
     simp only [List.mem_append, List.mem_cons] at hx'
     rcases hx' with h | h | h
     ·exact hall x (by simp [h])
     ·rw [h]; exact hnp
     ·exact hall x (by simp [h])
    refine ⟨?_, ?_, hr.tail, ?_, ?_, fun x hx' => hr.below x (hsub x hx'), ?_, by simp [hr.size], ?_, hr.back, ?_⟩
    ·intro x hx'
     have hxm := hsub x hx'
     refine ⟨(hr.mem x hxm).1, ?_⟩
     rw [hgetD, if_neg, (hr.mem x hxm).2]
     intro e
     rw [List.pairwise_append] at hsrt
     simp only [List.pairwise_cons] at hsrt
     rcases List.mem_append.1 hx' with h | h
     ·have := hsrt.2.2 x.1 (List.mem_map.2 ⟨x, h, rfl⟩) i' (by simp)
      omega
     ·have := hsrt.2.1.1 x.1 (List.mem_map.2 ⟨x, h, rfl⟩)
      omega
    ·intro j hj hl
     rw [hgetD] at hl
     by_cases e : i' = j
     ·rw [if_pos e] at hl; cases hl
     ·rw [if_neg e] at hl
      rcases hr.cov j hj hl with ⟨x, hx', hxj⟩ | hB
      ·refine .inl ⟨x, ?_, hxj⟩
       simp at hx' ⊢
       rcases hx' with h | h | h
       ·exact .inl h
       ·subst h; exact absurd hxj e
       ·exact .inr h
      ·exact .inr hB
    ·intro j hB hj
     rw [hgetD, if_neg (by have := hr.below _ hx; simp only at this; omega)]
     exact hr.tl j hB hj
    ·intro hB
     obtain ⟨x, hx', hxb, hxp⟩ := hr.last hB
     refine ⟨x, ?_, hxb, hxp⟩
     simp only [List.mem_append, List.mem_cons] at hx' ⊢
     rcases hx' with h | h | h
     ·exact .inl h
     ·rw [h] at hxp; exact absurd hnp hxp
     ·exact .inr h
    ·simp only [List.map_append]
     rw [List.pairwise_append] at hsrt ⊢
     simp only [List.pairwise_cons] at hsrt
     exact ⟨hsrt.1, hsrt.2.1.2, fun x hx y hy => hsrt.2.2 x hx y (by simp [hy])⟩
    ·intro j y hy hl e he hb
     rw [hgetD]
     by_cases e1 : i' = e.on
     ·rw [if_pos e1]
     ·rw [if_neg e1]
      rw [hgetD] at hl
      by_cases e2 : i' = j
      ·subst e2
       rw [h1] at hy
       cases hy
       exact h3 e he hb
      ·rw [if_neg e2] at hl
       exact hr.closed j y hy hl e he hb
    ·intro U h6 x hx' y hy'
     exact hr.indep U h6 x (hsub x hx') y (hsub y hy')
   unfold wpOp
   rw [h1]
   simp only []
   by_cases hnp : NoPan δ
   ·exact step_sound C (Q := Q) h4 (hd _ hx).1 hp (fun _ => hK hnp) (fun t m h => absurd h (hnp t m))
   ·have hw : Region.wanted o' (yielded all a.tmps) = true := by
     obtain ⟨β, R⟩ := hp
     cases h4 with
     | run _ hw ha => exact wants_rel R hw
     | skip hw => exact absurd (fun t m h => by cases h) hnp
    have := step_sound C (Q := Q) (next := fun _ _ => False) h4 (hd _ hx).1 hp (fun h => absurd h hnp) (fun t m h w' hp' => hpn _ hx t m h st a w' hj hp')
    rw [if_pos hw] at this ⊢
    exact this.imp (Oper.wp_mono (fun _ _ h => h.elim)) id
theorem freeOps_spec {E : Nat -> Option Ent} {ops : List Oper} (h : freeOps E ops = true) : ∀ o ∈ ops, freeOp E o = true := by
 unfold freeOps at h
 rw [List.all_eq_true] at h
 exact h
theorem waitAll_spec {ix : Nat} : ∀ {rest : List Oper} {dep : List Nat} {j : Nat}, waitAll dep j rest = true -> (∀ d ∈ dep, (d = ix ∨ ix < d) ∧ d < j) -> ix < j ->
  ∀ (m : Nat) (o : Oper), rest[m]? = some o -> (∃ e ∈ o.after, Region.binds .any e = true ∧ (ix + 1 ≤ e.on ∨ e.on + 1 = ix + 1) ∧ e.on < j + m) ∧ edgesBack (j + m) o = true := by
 intro rest
 induction rest with
 | nil => intro dep j _ _ _ m o h; simp at h
 | cons y ys ih =>
  intro dep j h hd hj m o ho
  simp only [waitAll, Bool.and_eq_true] at h
  obtain ⟨⟨h1, h2⟩, h3⟩ := h
  cases m with
  | zero =>
   simp at ho
   subst ho
   obtain ⟨e, he, hb, hm⟩ := waits_iff.1 h1
   obtain ⟨h4, h5⟩ := hd _ hm
   exact ⟨⟨e, he, hb, by omega, by omega⟩, h2⟩
  | succ m =>
   have := ih h3 (fun d hd' => by rcases List.mem_cons.1 hd' with rfl | h'; exact ⟨.inr hj, by omega⟩; exact ⟨(hd d h').1, by have := (hd d h').2; omega⟩) (by omega) m o (by simpa using ho)
   rwa [show j + (m + 1) = j + 1 + m by omega]
theorem heapPut_congr {hw : List (Nat × Reg)} {r : Nat} : ∀ {h h' : HeapT}, h r = h' r -> heapPut h hw r = heapPut h' hw r := by
 induction hw with
 | nil => exact fun e => e
 | cons p l ih =>
  obtain ⟨q, g⟩ := p
  intro h h' e
  simp only [heapPut]
  refine ih ?_
  simp only [upd_at]
  split
  ·rfl
  ·exact e
theorem writesOf_mem {f : Foot} : ∀ {fs : List Foot} {r : Nat}, f ∈ fs -> r ∈ f.hw -> r ∈ writesOf fs := by
 intro fs
 induction fs with
 | nil => intro r h; simp at h
 | cons x xs ih =>
  intro r h hr
  rcases List.mem_cons.1 h with rfl | h
  ·exact List.mem_append_left _ hr
  ·exact List.mem_append_right _ (ih h hr)
theorem killH_eq {W : List Nat} {h h' : HeapT} (H : ∀ r, r ∉ W -> h r = h' r) : killH W h = killH W h' := by
 funext r
 unfold killH
 cases hm : memB r W with
 | true => rfl
 | false => exact H r (fun hr => by rw [memB_iff.2 hr] at hm; cases hm)
theorem dstsOf_mem {o : Oper} {d : Nat} : ∀ {ops : List Oper}, o ∈ ops -> o.dst = some d -> d ∈ dstsOf ops := by
 intro ops
 induction ops with
 | nil => intro h; simp at h
 | cons x xs ih =>
  intro h hd
  simp only [dstsOf]
  rcases List.mem_cons.1 h with rfl | h
  ·rw [hd]; simp
  ·cases x.dst with
   | none => exact ih h hd
   | some _ => exact List.mem_cons_of_mem _ (ih h hd)
theorem region_sound {ρ : Type} {id : Nat} {draw : Bool} {κ : St -> Option ρ} {κp : Nat -> Int -> St -> Option ρ} {r : ρ}
  (e : execOps C.T C.E nt all all.toList st [] (fun st' fs => bif !draw || (noSel all.toList && freeOps C.E all.toList && orderOk all 0 all.toList fs.reverse) then κ st' else none)
   (fun t e st' rest fs => bif !draw then κp t e st' else bif noSel all.toList && freeOps C.E all.toList && panOk all fs.reverse rest then κp t e { env := forget all.toList st.env, heap := killH (writesOf fs.tail) st'.heap } else none) = some r)
  (hp : Post P w0 fp nt st a w) (hq : ∀ st' a w, κ st' = some r -> Post P w0 fp nt st' a w -> Q .normal a w)
  (hqp : ∀ t m st' a w, κp t m st' = some r -> Post P w0 fp nt st' a w -> Q (.panic (panChain t m)) a w) : (Code.region id all draw).wp P Q a w := by
 rcases execOps_trace C (i := 0) e with ⟨L, st', h1, h2, h3, h4, h5⟩ | ⟨L, st', o, δ, rest, t, m, h1, h2, h3, hdo, h4, h5, hpan, h6⟩
 ·obtain ⟨h6, h7⟩ := cond_some h5
  have hlen : L.length = all.size := by
   have := congrArg List.length h1
   simpa using this
  have hidx : ∀ (m : Nat) (x : Ran), L[m]? = some x -> x.1 = m ∧ all[m]? = some x.2.1 := by
   intro m x hx
   have e1 : (L.map (·.1))[m]? = some x.1 := by simp [hx]
   have e2 : (L.map (·.2.1))[m]? = some x.2.1 := by simp [hx]
   rw [h1] at e2
   rw [h2] at e1
   have hm' : m < all.size := by rw [<- hlen]; exact (List.getElem?_eq_some_iff.1 hx).1
   refine ⟨?_, by simpa using e2⟩
   rw [List.getElem?_range' (by simpa using hm')] at e1
   simpa using e1.symm
  have hget : ∀ x ∈ L, all[x.1]? = some x.2.1 := by
   intro x hx
   obtain ⟨m, hm'⟩ := List.mem_iff_getElem?.1 hx
   obtain ⟨e1, e2⟩ := hidx m x hm'
   rw [e1]; exact e2
  cases draw with
  | false =>
   refine wp_region ?_
   have : List.range all.size = L.map (·.1) ++ [] := by rw [h2, List.range_eq_range']; simp
   rw [this]
   exact wpOps_trace C hget h3 h4 hp (fun a w h => hq st' a w h7 h)
  | true =>
   simp only [Bool.not_true, Bool.false_or, Bool.and_eq_true, List.append_nil, List.reverse_reverse] at h6
   refine wp_region_any C.hord ?_
   have hp' : Post P w0 fp nt st a { w with drawn := w.drawn + 1 } := by obtain ⟨β, R⟩ := hp; exact ⟨β, R.drew _⟩
   obtain ⟨g1, g2, g3⟩ := orderOk_spec h6.2
   have hfr := freeOps_spec h6.1.2
   refine wpAny_trace C (L := L) (B := all.size) (J := fun _ => True) (by omega) ?_ (fun x hx => ⟨(h3 x hx).1, hfr _ (by have := hget x hx; exact List.mem_of_getElem? (i := x.1) (by simpa using this))⟩) h4 hp' trivial (fun _ _ _ _ _ => trivial) (fun x hx t m h => absurd h ((h3 x hx).2 t m)) (fun _ a w h => hq st' a w h7 h)
   have hrep : ∀ j d, j < all.size -> (Array.replicate all.size false).getD j d = false := by
    intro j d hj
    rw [Array.getD_eq_getD_getElem?, Array.getElem?_replicate, if_pos hj]; rfl
   refine ⟨fun x hx => ⟨hget x hx, hrep _ _ ?_⟩, ?_, ?_, ?_, ?_, ?_, ?_, by simp, ?_, ?_, ?_⟩
   ·exact (Array.getElem?_eq_some_iff.1 (hget x hx)).1
   ·intro i hi _
    have hi' : i < L.length := by omega
    exact .inl ⟨L[i], List.getElem_mem hi', (hidx i L[i] (by simp [hi'])).1⟩
   ·intro j o hj ho
    have := (Array.getElem?_eq_some_iff.1 ho).1
    omega
   ·intro j hj hj'; omega
   ·intro h; omega
   ·intro x hx; exact (Array.getElem?_eq_some_iff.1 (hget x hx)).1
   ·rw [h2]
    exact List.pairwise_lt_range'
   ·intro j o hj hl
    rw [hrep _ _ (Array.getElem?_eq_some_iff.1 hj).1] at hl
    cases hl
   ·intro i o ho
    have := g1 i o (by simpa using ho)
    simpa using this
   ·intro U hU x hx y hy hlt hUx hn
    obtain ⟨m, hm'⟩ := List.mem_iff_getElem?.1 hx
    obtain ⟨m2, hm2⟩ := List.mem_iff_getElem?.1 hy
    obtain ⟨e1, e2⟩ := hidx m x hm'
    obtain ⟨e3, e4⟩ := hidx m2 y hm2
    have hf := g3 m x.2.1 (footOf x.2.2) (by simpa using e2) (by simp [hm'])
    rw [Nat.zero_add] at hf
    refine freeOf_spec (U := U) hf ?_ ?_ (m2 - (m + 1)) y.2.1 (footOf y.2.2) ?_ ?_ hn
    ·intro d hd
     simp only [List.mem_singleton] at hd
     subst hd
     rw [<- e1]; exact hUx
    ·intro q z hz he
     have hz' : all[m + 1 + q]? = some z := by simpa [List.getElem?_drop] using hz
     exact hU _ z hz' he
    ·rw [List.getElem?_drop, show m + 1 + (m2 - (m + 1)) = m2 by omega]
     simpa using e4
    ·rw [List.getElem?_drop, show m + 1 + (m2 - (m + 1)) = m2 by omega]
     simp [hm2]
 ·have hall : ∀ (j : Nat), all[j]? = (L.map (·.2.1) ++ o :: rest)[j]? := fun j => by rw [<- h1]; simp
  have hsz : all.size = L.length + 1 + rest.length := by
   have := congrArg List.length h1
   simp at this
   omega
  have hox : all[L.length]? = some o := by rw [hall, List.getElem?_append_right (by simp)]; simp
  have hidx : ∀ (m : Nat) (x : Ran), L[m]? = some x -> x.1 = m ∧ all[m]? = some x.2.1 := by
   intro m x hx
   have hm' : m < L.length := (List.getElem?_eq_some_iff.1 hx).1
   have e1 : (L.map (·.1))[m]? = some x.1 := by simp [hx]
   rw [h2] at e1
   refine ⟨?_, ?_⟩
   ·rw [List.getElem?_range' hm'] at e1
    simpa using e1.symm
   ·rw [hall, List.getElem?_append_left (by simpa using hm')]
    simp [hx]
  have hget : ∀ x ∈ L, all[x.1]? = some x.2.1 := by
   intro x hx
   obtain ⟨m, hm'⟩ := List.mem_iff_getElem?.1 hx
   obtain ⟨e1, e2⟩ := hidx m x hm'
   rw [e1]; exact e2
  cases draw with
  | false =>
   simp only [Bool.not_false, cond_true] at h6
   refine wp_region ?_
   have : List.range all.size = L.map (·.1) ++ L.length :: List.range' (L.length + 1) rest.length := by
    rw [h2, List.range_eq_range', hsz]
    have : L.length + 1 + rest.length = L.length + (1 + rest.length) := by omega
    rw [this, <- List.range'_append_1, Nat.zero_add, Nat.add_comm 1, List.range'_succ]
   rw [this]
   refine wpOps_trace C hget h3 h4 hp fun a w hp' => ?_
   exact wpOps_pan C hox hdo h5 hpan hp' fun w' h => hqp t m _ a w' h6 h
  | true =>
   simp only [Bool.not_true, cond_false, List.append_nil, List.reverse_cons, List.reverse_reverse] at h6
   obtain ⟨h7, h8⟩ := cond_some h6
   simp only [Bool.and_eq_true, panOk, List.length_append, List.length_map, List.length_singleton, Nat.add_sub_cancel] at h7
   obtain ⟨⟨_, hfr⟩, hord, hwait⟩ := h7
   have hfr := freeOps_spec hfr
   refine wp_region_any C.hord ?_
   have hp' : Post P w0 fp nt st a { w with drawn := w.drawn + 1 } := by obtain ⟨β, R⟩ := hp; exact ⟨β, R.drew _⟩
   have htake : all.toList.take (L.length + 1) = L.map (·.2.1) ++ [o] := by
    rw [h1, List.take_append, List.take_of_length_le (by simp)]
    simp
   rw [htake] at hord
   obtain ⟨g1, g2, g3⟩ := orderOk_spec hord
   let L2 : List Ran := L ++ [(L.length, o, δ)]
   have hget2 : ∀ x ∈ L2, all[x.1]? = some x.2.1 := by
    intro x hx
    rcases List.mem_append.1 hx with h | h
    ·exact hget x h
    ·rw [List.mem_singleton] at h; subst h; exact hox
   have htr : ∀ {L : List Ran} {st : St}, TraceR C all st L st' -> TraceR C all st (L ++ [(L2.length - 1, o, δ)]) (st'.app o.dst δ) := by
    intro L
    induction L with
    | nil => intro st h; cases h; exact ⟨h5, rfl⟩
    | cons x L ih => intro st h; exact ⟨h.1, ih h.2⟩
   have htr2 : TraceR C all st L2 (st'.app o.dst δ) := by have := htr h4; simpa [L2] using this
   have hidx2 : ∀ (m : Nat) (x : Ran), L2[m]? = some x -> x.1 = m := by
    intro m x hx
    rcases Nat.lt_or_ge m L.length with h | h
    ·rw [List.getElem?_append_left h] at hx; exact (hidx m x hx).1
    ·rw [List.getElem?_append_right h] at hx
     have : m - L.length = 0 := by
      rcases Nat.eq_zero_or_pos (m - L.length) with h' | h'
      ·exact h'
      ·rw [List.getElem?_eq_none (by simp; omega)] at hx; cases hx
     rw [this] at hx
     simp at hx
     subst hx
     simp only
     omega
   have hmap2 : L2.map (·.2.1) = L.map (·.2.1) ++ [o] := by simp [L2]
   have hfoot2 : L2.map (fun x => footOf x.2.2) = L.map (fun x => footOf x.2.2) ++ [footOf δ] := by simp [L2]
   have hlen2 : L2.length = L.length + 1 := by simp [L2]
   have hmapL : L2.map (·.1) = List.range' 0 L2.length := by simp [L2, h2, List.range'_concat]
   let W : List Nat := writesOf (L.map (fun x => footOf x.2.2)).reverse
   have hwr : ∀ x ∈ L, ∀ r, r ∉ W -> r ∉ x.2.2.hw.map (·.1) := by
    intro x hx r hr h
    exact hr (writesOf_mem (f := footOf x.2.2) (List.mem_reverse.2 (List.mem_map.2 ⟨x, hx, rfl⟩)) h)
   refine wpAny_trace C (L := L2) (B := L.length + 1) (J := fun s => (∀ r, r ∉ W -> s.heap r = st.heap r) ∧ ∀ t, forget all.toList st.env t = forget all.toList s.env t) (by omega) ?_ ?_ htr2 hp' ⟨fun _ _ => rfl, fun _ => rfl⟩ ?_ ?_ ?_
   ·have hrep : ∀ j d, j < all.size -> (Array.replicate all.size false).getD j d = false := by
     intro j d hj
     rw [Array.getD_eq_getD_getElem?, Array.getElem?_replicate, if_pos hj]; rfl
    refine ⟨fun x hx => ⟨hget2 x hx, hrep _ _ ?_⟩, ?_, ?_, ?_, ?_, ?_, ?_, by simp, ?_, ?_, ?_⟩
    ·exact (Array.getElem?_eq_some_iff.1 (hget2 x hx)).1
    ·intro i hi _
     rcases Nat.lt_or_ge i L2.length with h | h
     ·exact .inl ⟨L2[i], List.getElem_mem h, hidx2 i L2[i] (by simp [h])⟩
     ·exact .inr (by omega)
    ·intro j z hj hz
     have hz' : rest[j - (L.length + 1)]? = some z := by
      rw [hall, List.getElem?_append_right (by simp; omega)] at hz
      simp only [List.length_map] at hz
      rw [show j - L.length = (j - (L.length + 1)) + 1 by omega] at hz
      simpa using hz
     obtain ⟨⟨e, he, hb, hon, hlt⟩, _⟩ := waitAll_spec (ix := L.length) hwait (by intro d hd; simp at hd; subst hd; exact ⟨.inl rfl, by omega⟩) (by omega) _ z hz'
     exact ⟨e, he, hb, by omega, by omega⟩
    ·intro j _ hj'; exact hrep j _ hj'
    ·intro _
     exact ⟨(L.length, o, δ), by simp [L2], rfl, fun h => h t m hpan⟩
    ·intro x hx
     obtain ⟨m', hm'⟩ := List.mem_iff_getElem?.1 hx
     rw [hidx2 m' x hm']
     have := (List.getElem?_eq_some_iff.1 hm').1
     omega
    ·rw [hmapL]; exact List.pairwise_lt_range'
    ·intro j o hj hl
     rw [hrep _ _ (Array.getElem?_eq_some_iff.1 hj).1] at hl
     cases hl
    ·intro i z hz
     rcases Nat.lt_or_ge i (L.length + 1) with h | h
     ·have := g1 i z (by rw [<- htake, List.getElem?_take, if_pos h]; simpa using hz)
      simpa using this
     ·have hz' : rest[i - (L.length + 1)]? = some z := by
       rw [hall, List.getElem?_append_right (by simp; omega)] at hz
       simp only [List.length_map] at hz
       rw [show i - L.length = (i - (L.length + 1)) + 1 by omega] at hz
       simpa using hz
      have := (waitAll_spec (ix := L.length) hwait (by intro d hd; simp at hd; subst hd; exact ⟨.inl rfl, by omega⟩) (by omega) _ z hz').2
      rwa [show L.length + 1 + (i - (L.length + 1)) = i by omega] at this
    ·intro U hU x hx y hy hlt hUx hn
     obtain ⟨m1, hm1⟩ := List.mem_iff_getElem?.1 hx
     obtain ⟨m2, hm2⟩ := List.mem_iff_getElem?.1 hy
     have e1 := hidx2 m1 x hm1
     have e3 := hidx2 m2 y hm2
     have hf := g3 m1 x.2.1 (footOf x.2.2) (by rw [<- hmap2]; simp [hm1]) (by rw [<- hfoot2]; simp [hm1])
     rw [Nat.zero_add] at hf
     refine freeOf_spec (U := U) hf ?_ ?_ (m2 - (m1 + 1)) y.2.1 (footOf y.2.2) ?_ ?_ hn
     ·intro d hd
      simp only [List.mem_singleton] at hd
      subst hd
      rw [<- e1]; exact hUx
     ·intro q z hz he
      have hz' : all[m1 + 1 + q]? = some z := by
       rw [<- hmap2, List.getElem?_drop] at hz
       rw [hmap2, <- htake, List.getElem?_take] at hz
       split at hz
       ·simpa using hz
       ·cases hz
      exact hU _ z hz' he
     ·rw [<- hmap2, List.getElem?_drop, show m1 + 1 + (m2 - (m1 + 1)) = m2 by omega]
      simp [hm2]
     ·rw [<- hfoot2, List.getElem?_drop, show m1 + 1 + (m2 - (m1 + 1)) = m2 by omega]
      simp [hm2]
   ·intro x hx
    refine ⟨?_, hfr _ (List.mem_of_getElem? (i := x.1) (by have := hget2 x hx; simpa using this))⟩
    rcases List.mem_append.1 hx with h | h
    ·exact (h3 x h).1
    ·rw [List.mem_singleton] at h; subst h; exact hdo
   ·intro x hx hnp s hs
    have hxL : x ∈ L := by
     rcases List.mem_append.1 hx with h | h
     ·exact h
     ·rw [List.mem_singleton] at h; subst h; exact absurd hpan (hnp t m)
    refine ⟨fun r hr => by simp only [St.app]; rw [heapPut_ne (hwr x hxL r hr)]; exact hs.1 r hr, fun u => ?_⟩
    rw [hs.2 u]
    simp only [forget, St.app]
    cases hd : x.2.1.dst with
    | none => rfl
    | some d =>
     simp only [putEnv]
     have hdm : d ∈ dstsOf all.toList := dstsOf_mem (List.mem_of_getElem? (i := x.1) (by have := hget2 x hx; simpa using this)) hd
     by_cases hu : u = d
     ·subst hu
      rw [memB_iff.2 hdm]
      rfl
     ·rw [upd_ne _ _ hu]
   ·intro x hx t' m' hx' s a' w' hs hpo
    have hxe : x = (L.length, o, δ) := by
     rcases List.mem_append.1 hx with h | h
     ·exact absurd hx' ((h3 x h).2 t' m')
     ·exact List.mem_singleton.1 h
    subst hxe
    simp only at hx'
    rw [hpan] at hx'
    cases hx'
    refine hqp t m _ a' w' h8 ?_
    obtain ⟨β, R⟩ := hpo
    have hh : killH W (st'.app none δ).heap = killH W (s.app none δ).heap := by
     have hst : ∀ {L : List Ran} {st st' : St}, (∀ x ∈ L, ∀ r, r ∉ W -> r ∉ x.2.2.hw.map (·.1)) -> TraceR C all st L st' -> ∀ r, r ∉ W -> st'.heap r = st.heap r := by
      intro L
      induction L with
      | nil => intro st st' _ h r hr; cases h; rfl
      | cons x L ih =>
       intro st st' hw h r hr
       rw [ih (fun y hy => hw y (by simp [hy])) h.2 r hr]
       simp only [St.app]
       exact heapPut_ne (hw x (by simp) r hr)
     refine killH_eq fun r hr => ?_
     simp only [St.app]
     exact heapPut_congr (by rw [hst hwr h4 r hr, hs.1 r hr])
    refine ⟨β, ?_⟩
    have := (R.killW W).less (env := forget all.toList st.env) (by
     intro u av hu
     rw [hs.2 u] at hu
     simp only [forget] at hu
     cases hb : memB u (dstsOf all.toList) with
     | true => rw [hb] at hu; cases hu
     | false => rw [hb] at hu; exact hu)
    rw [<- hh] at this
    exact this
   ·intro hno
    exact absurd hpan (hno (L.length, o, δ) (by simp [L2]) t m)
end
end
end Go.Abs
namespace Go.Abs
open Go.RowKit
def exitOf : AExit -> Exit
 | .normal => .normal
 | .exit i => .exit i
 | .ret => .ret
 | .panic t n => .panic (panChain t n)
section
variable {P : Program} (C : Ctx P) (nt : Nat)
def LOk (P : Program) (nt : Nat) (e : LEnt) (c : Code) : Prop := ∀ (ρ : Type) (st : St) (κ : AExit -> St -> Option ρ) (r : ρ), e.k st κ = some r ->
 ∀ (w0 : World) (fp : FP) (a : Act) (w : World) (Q : Exit -> Act -> World -> Prop), Post P w0 fp nt st a w ->
 (∀ x st' a' w', κ x st' = some r -> Post P w0 fp nt st' a' w' -> Q (exitOf x) a' w') -> c.wp P Q a w
def AnnOk (P : Program) (nt : Nat) : Code -> Ann -> Prop
 | .seq a b, ann => (match ann.cut? with | some e => LOk P nt e (.seq a b) | none => AnnOk P nt a ann.fst ∧ AnnOk P nt b ann.snd)
 | .cond c a b, ann => (match ann.cut? with | some e => LOk P nt e (.cond c a b) | none => AnnOk P nt a ann.fst ∧ AnnOk P nt b ann.snd)
 | .block id b, ann => (match ann.cut? with | some e => LOk P nt e (.block id b) | none => AnnOk P nt b ann.fst)
 | .loop b, ann => (match ann.cut? with | some e => LOk P nt e (.loop b) | none => True)
 | .region i ops d, ann => (match ann.cut? with | some e => LOk P nt e (.region i ops d) | none => True)
 | _, _ => True
theorem exec_sound {ρ : Type} : ∀ {c : Code} {ann : Ann} {κ : AExit -> St -> Option ρ} {st : St} {r : ρ}, exec C.T C.E nt c ann κ st = some r -> AnnOk P nt c ann ->
  ∀ {w0 : World} {fp : FP} {a : Act} {w : World} {Q : Exit -> Act -> World -> Prop}, Post P w0 fp nt st a w ->
  (∀ x st' a' w', κ x st' = some r -> Post P w0 fp nt st' a' w' -> Q (exitOf x) a' w') -> c.wp P Q a w := by
 intro c
 induction c with
 | skip => intro ann κ st r e _ w0 fp a w Q hp hq; exact wp_skip (hq .normal _ _ _ e hp)
 | region id ops draw =>
  intro ann κ st r e hA w0 fp a w Q hp hq
  simp only [exec] at e
  simp only [AnnOk] at hA
  cases hc : ann.cut? with
  | some l =>
   rw [hc] at e hA
   exact hA _ st κ r e w0 fp a w Q hp hq
  | none =>
   rw [hc] at e
   exact region_sound C (κ := κ .normal) (κp := fun t n => κ (.panic t n)) e hp (fun st' a w h => hq .normal st' a w h) (fun t m st' a w h => hq (.panic t m) st' a w h)
 | seq x y ihx ihy =>
  intro ann κ st r e hA w0 fp a w Q hp hq
  simp only [exec] at e
  simp only [AnnOk] at hA
  cases hc : ann.cut? with
  | some l =>
   rw [hc] at e hA
   exact hA _ st κ r e w0 fp a w Q hp hq
  | none =>
   rw [hc] at e hA
   refine wp_seq (ihx e hA.1 hp ?_)
   intro z st' a' w' h hp'
   cases z with
   | normal => exact ihy h hA.2 hp' hq
   | exit i => exact hq _ _ _ _ h hp'
   | ret => exact hq _ _ _ _ h hp'
   | panic t n => exact hq _ _ _ _ h hp'
 | cond c x y ihx ihy =>
  intro ann κ st r e hA w0 fp a w Q hp hq
  simp only [exec] at e
  simp only [AnnOk] at hA
  cases hc : ann.cut? with
  | some l =>
   rw [hc] at e hA
   exact hA _ st κ r e w0 fp a w Q hp hq
  | none =>
   rw [hc] at e hA
   simp only [] at e
   split at e
   ·rename_i t ht
    have hv : a.eval c = .bool t := by
     obtain ⟨β, R⟩ := hp
     have := opd_rel R ht
     simpa only [AVRel, CVRel] using this
    split at e
    ·rename_i h1
     subst h1
     exact wp_cond_true hv (ihx e hA.1 hp hq)
    ·rename_i h1
     have h2 : t = false := by simpa using h1
     subst h2
     exact wp_cond_false hv (ihy e hA.2 hp hq)
   ·cases e
 | block id x ih =>
  intro ann κ st r e hA w0 fp a w Q hp hq
  simp only [exec] at e
  simp only [AnnOk] at hA
  cases hc : ann.cut? with
  | some l =>
   rw [hc] at e hA
   exact hA _ st κ r e w0 fp a w Q hp hq
  | none =>
   rw [hc] at e hA
   refine wp_block (ih e hA hp ?_)
   intro z st' a' w' h hp'
   cases z with
   | normal => exact hq _ _ _ _ h hp'
   | exit i =>
    simp only [exitOf, Exit.inBlock]
    simp only [] at h
    cases hb : Nat.beq i id with
    | true =>
     rw [hb] at h
     rw [if_pos (nbeq.1 hb)]
     exact hq .normal _ _ _ h hp'
    | false =>
     rw [hb] at h
     rw [if_neg (fun he => by rw [he, Nat.beq_refl] at hb; cases hb)]
     exact hq (.exit i) _ _ _ h hp'
   | ret => exact hq _ _ _ _ h hp'
   | panic t n => exact hq _ _ _ _ h hp'
 | loop x ih =>
  intro ann κ st r e hA w0 fp a w Q hp hq
  simp only [exec] at e
  simp only [AnnOk] at hA
  cases hc : ann.cut? with
  | some l =>
   rw [hc] at e hA
   exact hA _ st κ r e w0 fp a w Q hp hq
  | none => rw [hc] at e; cases e
 | exit id => intro ann κ st r e _ w0 fp a w Q hp hq; exact wp_exit (hq (.exit id) _ _ _ e hp)
 | ret => intro ann κ st r e _ w0 fp a w Q hp hq; exact wp_ret (hq .ret _ _ _ e hp)
 | _ => intro ann κ st r e; simp only [exec] at e; cases e
end
def Code.at' : List Nat -> Code -> Code
 | [], c => c
 | 0 :: p, .seq a _ => Code.at' p a
 | _ :: p, .seq _ b => Code.at' p b
 | 0 :: p, .cond _ a _ => Code.at' p a
 | _ :: p, .cond _ _ b => Code.at' p b
 | _ :: p, .block _ b => Code.at' p b
 | _ :: p, .loop b => Code.at' p b
 | _, c => c
def Ann.cuts : Ann -> List (List Nat × LEnt)
 | .none => []
 | .cut e => [([], e)]
 | .seq a b => (a.cuts.map fun x => (0 :: x.1, x.2)) ++ (b.cuts.map fun x => (1 :: x.1, x.2))
 | .blk a => a.cuts.map fun x => (0 :: x.1, x.2)
theorem annOk_of_cuts {P : Program} {nt : Nat} : ∀ {c : Code} {ann : Ann}, (∀ x ∈ ann.cuts, LOk P nt x.2 (Code.at' x.1 c)) -> AnnOk P nt c ann := by
 have hcut : ∀ {ann : Ann} {e : LEnt}, ann.cut? = some e -> ([], e) ∈ ann.cuts := by
  intro ann e h
  cases ann <;> simp only [Ann.cut?] at h <;> try (cases h; done)
  cases h
  simp [Ann.cuts]
 have hfst : ∀ {ann : Ann} {x : List Nat × LEnt}, x ∈ ann.fst.cuts -> (0 :: x.1, x.2) ∈ ann.cuts := by
  intro ann x h
  cases ann <;> simp only [Ann.fst, Ann.cuts, List.mem_append, List.mem_map] at h ⊢
  ·simp at h
  ·exact .inl ⟨x, h, rfl⟩
  ·exact ⟨x, h, rfl⟩
  ·simp at h
 have hsnd : ∀ {ann : Ann} {x : List Nat × LEnt}, x ∈ ann.snd.cuts -> (1 :: x.1, x.2) ∈ ann.cuts := by
  intro ann x h
  cases ann <;> simp only [Ann.snd, Ann.cuts, List.mem_append, List.mem_map] at h ⊢
  ·simp at h
  ·exact .inr ⟨x, h, rfl⟩
  ·simp at h
  ·simp at h
 intro c
 induction c with
 | seq a b iha ihb =>
  intro ann H
  simp only [AnnOk]
  cases hc : ann.cut? with
  | some e => exact H _ (hcut hc)
  | none => exact ⟨iha fun x hx => H _ (hfst hx), ihb fun x hx => H _ (hsnd hx)⟩
 | cond c a b iha ihb =>
  intro ann H
  simp only [AnnOk]
  cases hc : ann.cut? with
  | some e => exact H _ (hcut hc)
  | none => exact ⟨iha fun x hx => H _ (hfst hx), ihb fun x hx => H _ (hsnd hx)⟩
 | block id b ih =>
  intro ann H
  simp only [AnnOk]
  cases hc : ann.cut? with
  | some e => exact H _ (hcut hc)
  | none => exact ih fun x hx => H _ (hfst hx)
 | loop b ih =>
  intro ann H
  simp only [AnnOk]
  cases hc : ann.cut? with
  | some e => exact H _ (hcut hc)
  | none => trivial
 | region i ops d =>
  intro ann H
  simp only [AnnOk]
  cases hc : ann.cut? with
  | some e => exact H _ (hcut hc)
  | none => trivial
 | _ => intro ann H; trivial
section
variable {σ τ : Type}
def iterN (step : σ -> Option (σ ⊕ τ)) : Nat -> σ -> Option τ
 | 0, _ => none
 | n + 1, s => match step s with
  | none => none
  | some (.inl s') => iterN step n s'
  | some (.inr t) => some t
open Classical in
noncomputable def loopO (step : σ -> Option (σ ⊕ τ)) (s : σ) : Option τ := if h : ∃ n t, iterN step n s = some t then some (Classical.choose (Classical.choose_spec h)) else none
theorem iterN_mono (step : σ -> Option (σ ⊕ τ)) : ∀ {n m : Nat} {s : σ} {t : τ}, iterN step n s = some t -> n ≤ m -> iterN step m s = some t := by
 intro n
 induction n with
 | zero => intro m s t h; cases h
 | succ n ih =>
  intro m s t h hm
  cases m with
  | zero => omega
  | succ m =>
   simp only [iterN] at h ⊢
   split at h
   ·cases h
   ·rename_i hs; exact ih h (by omega)
   ·exact h
theorem loopO_iff {step : σ -> Option (σ ⊕ τ)} {s : σ} {t : τ} : loopO step s = some t ↔ ∃ n, iterN step n s = some t := by
 unfold loopO
 constructor
 ·intro h
  split at h
  ·rename_i hx
   cases h
   exact ⟨_, Classical.choose_spec (Classical.choose_spec hx)⟩
  ·cases h
 ·rintro ⟨n, hn⟩
  have hx : ∃ n t, iterN step n s = some t := ⟨n, t, hn⟩
  rw [dif_pos hx]
  have h1 := Classical.choose_spec (Classical.choose_spec hx)
  generalize Classical.choose (Classical.choose_spec hx) = t' at h1 ⊢
  generalize Classical.choose hx = n' at h1
  rcases Nat.le_total n n' with h | h
  ·rw [iterN_mono step hn h] at h1; exact h1.symm
  ·rw [iterN_mono step h1 h] at hn; exact hn
theorem loopO_eq (step : σ -> Option (σ ⊕ τ)) (s : σ) : loopO step s = match step s with
  | none => none
  | some (.inl s') => loopO step s'
  | some (.inr t) => some t := by
 apply Option.ext
 intro t
 rw [loopO_iff]
 constructor
 ·rintro ⟨n, hn⟩
  cases n with
  | zero => cases hn
  | succ n =>
   simp only [iterN] at hn
   split at hn
   ·cases hn
   ·rename_i hs; exact loopO_iff.2 ⟨n, hn⟩
   ·exact hn
 ·intro h
  split at h
  ·cases h
  ·rename_i hs
   obtain ⟨n, hn⟩ := loopO_iff.1 h
   exact ⟨n + 1, by simp only [iterN, hs]; exact hn⟩
  ·rename_i hs
   exact ⟨1, by simp only [iterN, hs]; exact h⟩
end
end Go.Abs
namespace Go.Abs
universe u
open Go.RowKit
inductive CS where
 | int (k : IntKind)
 | bool
 | str
 | ints (k : IntKind) (n : Nat)
 | junk (n : Nat)
 | fz (d : DT)
 | fzn (d : DT)
 | ptr (r base room : Nat)
 | ptri (r base lim room : Nat)
 | full (r : Nat)
 | sl (r : Nat)
 | asl (r base lim : Nat)
 | nilp
 | nils
 | fzp (d : DT)
 | boolc (b : Bool)
 | clo (f : Nat) (caps : List Nat)
 | sl0 (r : Nat)
abbrev CS.T : CS -> Type
 | .int _ => Int
 | .bool => Bool
 | .str => ByteArray
 | .ints _ _ => Nat -> Int
 | .junk _ => Unit
 | .fz d => List d.T
 | .fzn d => List d.T × Nat
 | .ptr _ _ _ => Unit
 | .ptri _ _ _ _ => Nat
 | .full _ => Unit
 | .sl _ => Nat × Nat
 | .asl _ _ _ => Nat × Nat
 | .nilp => Unit
 | .nils => Unit
 | .fzp d => d.T
 | .boolc _ => Unit
 | .clo _ _ => Unit
 | .sl0 _ => Nat
def CS.enc : (s : CS) -> s.T -> CV
 | .int k, n => .int k n
 | .bool, b => .bool b
 | .str, s => .str s
 | .ints k n, f => .ints k n f
 | .junk n, _ => .junk n
 | .fz d, xs => .fz d xs none
 | .fzn d, x => .fz d x.1 (some x.2)
 | .ptr r base room, _ => .ptr r base none room
 | .ptri r base lim room, i => .ptr r base (some (i, lim)) room
 | .full r, _ => .full r
 | .sl r, x => .sl r x.1 x.2
 | .asl r base lim, x => .asl r base x.1 x.2 lim
 | .nilp, _ => .val (.pointer none)
 | .nils, _ => .val (.slice none 0 0)
 | .fzp d, x => .fzp (encD d x) none d.size
 | .boolc b, _ => .bool b
 | .clo f caps, _ => .clo f caps
 | .sl0 r, n => .sl r 0 n
def decD : (t : DT) -> List CV -> Option (t.T × List CV)
 | .int k, cs => (match cs with | .int k' x :: r => bif k == k' then some (x, r) else none | _ => none)
 | .bool, cs => (match cs with | .bool b :: r => some (b, r) | _ => none)
 | .str, cs => (match cs with | .str b :: r => some (b, r) | _ => none)
 | .item, cs => (match cs with
  | .int .u8 x :: .fz d b none :: .fz d' k none :: r => (match asDT (.int .u8) d b, asDT .item d' k with | some b, some k => some (.node x b k, r) | _, _ => none)
  | _ => none)
 | .arr k n, cs => (match cs with | .ints k' n' f :: r => bif k == k' && Nat.beq n n' then some (f, r) else none | _ => none)
 | .sl t, cs => (match cs with | .fz d xs none :: r => (match asDT t d xs with | some ys => some (ys, r) | none => none) | _ => none)
 | .pair a b, cs => (match decD a cs with
  | some (x, r) => (match decD b r with | some (y, r') => some ((x, y), r') | none => none)
  | none => none)
 | .pt t, cs => (match cs with
  | .fzp l none room :: r => bif Nat.beq room t.size then (match decD t l with | some (x, []) => some (x, r) | _ => none) else none
  | _ => none)
 | .unit, cs => some ((), cs)
theorem decD_enc : ∀ {t : DT} {cs r : List CV} {x : t.T}, decD t cs = some (x, r) -> cs = encD t x ++ r := by
 intro t
 induction t with
 | int k =>
  intro cs r x h
  simp only [decD] at h
  split at h
  ·obtain ⟨h1, h2⟩ := cond_some h; obtain rfl := beqK.1 h1; cases h2; rfl
  ·cases h
 | bool =>
  intro cs r x h
  simp only [decD] at h
  split at h
  ·cases h; rfl
  ·cases h
 | str =>
  intro cs r x h
  simp only [decD] at h
  split at h
  ·cases h; rfl
  ·cases h
 | item =>
  intro cs r x h
  simp only [decD] at h
  split at h
  ·split at h
   ·rename_i h1 h2
    obtain ⟨e1, h1⟩ := asDT_spec h1
    obtain ⟨e2, h2⟩ := asDT_spec h2
    subst e1; subst h1; subst e2; subst h2
    cases h; rfl
   ·cases h
  ·cases h
 | arr k n =>
  intro cs r x h
  simp only [decD] at h
  split at h
  ·obtain ⟨h1, h2⟩ := cond_some h
   simp only [Bool.and_eq_true] at h1
   obtain rfl := beqK.1 h1.1
   obtain rfl := nbeq.1 h1.2
   cases h2; rfl
  ·cases h
 | sl t ih =>
  intro cs r x h
  simp only [decD] at h
  split at h
  ·split at h
   ·rename_i ys h1
    obtain ⟨e, h2⟩ := asDT_spec h1
    subst e; subst h2; cases h; rfl
   ·cases h
  ·cases h
 | pair a b iha ihb =>
  intro cs r x h
  simp only [decD] at h
  split at h
  ·rename_i y r1 h1
   split at h
   ·rename_i z r2 h2
    cases h
    have e1 := iha h1
    have e2 := ihb h2
    show cs = (encD a y ++ encD b z) ++ r
    rw [List.append_assoc, <- e2, <- e1]
   ·cases h
  ·cases h
 | pt t ih =>
  intro cs r x h
  simp only [decD] at h
  split at h
  ·obtain ⟨h1, h2⟩ := cond_some h
   obtain rfl := nbeq.1 h1
   split at h2
   ·rename_i y h3
    cases h2
    have := ih h3
    rw [List.append_nil] at this
    subst this; rfl
   ·cases h2
  ·cases h
 | unit => intro cs r x h; simp only [decD] at h; cases h; rfl
def isNilP : Value -> Bool
 | .pointer none => true
 | _ => false
theorem isNilP_spec {v : Value} (h : isNilP v = true) : v = .pointer none := by
 unfold isNilP at h
 split at h
 ·rfl
 ·cases h
def one1 : CV -> Bool
 | .ints _ _ _ => false
 | .junk _ => false
 | _ => true
def eqNats : List Nat -> List Nat -> Bool
 | [], [] => true
 | x :: l, y :: r => Nat.beq x y && eqNats l r
 | _, _ => false
theorem eqNats_spec : ∀ {l r : List Nat}, eqNats l r = true -> l = r := by
 intro l
 induction l with
 | nil => intro r h; cases r with
  | nil => rfl
  | cons => cases h
 | cons x l ih => intro r h; cases r with
  | nil => cases h
  | cons y r => simp only [eqNats, Bool.and_eq_true] at h; rw [nbeq.1 h.1, ih h.2]
def CS.dec (h : Heap) (ρ : Nat -> Nat) (N : Nat -> Bool) : (s : CS) -> CV -> Option (s.T × List Nat)
 | .int k, c => (match c with | .int k' n => bif k == k' then some (n, []) else none | _ => none)
 | .bool, c => (match c with | .bool b => some (b, []) | _ => none)
 | .str, c => (match c with | .str s => some (s, []) | _ => none)
 | .ints k n, c => (match c with | .ints k' n' f => bif k == k' && Nat.beq n n' then some (f, []) else none | _ => none)
 | .junk n, c => (match c with
  | .junk n' => bif Nat.beq n n' then some ((), []) else none
  | c => bif one1 c && Nat.beq n 1 then some ((), []) else none)
 | .fz d, c => frzSl h d c
 | .fzn d, c => (match c with
  | .fz d' xs (some n) => (match asDT d d' xs with | some ys => some ((ys, n), []) | none => none)
  | .sl r o n => bif Nat.beq o 0 then (match h r with
   | some (.row _ k xs) => (match rowAs d k xs with | some ys => some ((ys, n), [r]) | none => none)
   | _ => none) else none
  | _ => none)
 | .ptr r base room, c => (match c with | .ptr r' base' none room' => bif !N r && (Nat.beq (ρ r) r' && (Nat.beq base base' && Nat.beq room room')) then some ((), []) else none | _ => none)
 | .ptri r base lim room, c => (match c with | .ptr r' base' (some (i, lim')) room' => bif !N r && (Nat.beq (ρ r) r' && (Nat.beq base base' && (Nat.beq lim lim' && Nat.beq room room'))) then some (i, []) else none | _ => none)
 | .full r, c => (match c with
  | .full r' => bif !N r && Nat.beq (ρ r) r' then some ((), []) else none
  | .val v => bif N r && isNilS v then some ((), []) else none
  | _ => none)
 | .sl r, c => (match c with
  | .sl r' o n => bif !N r && Nat.beq (ρ r) r' then some ((o, n), []) else none
  | .full r' => bif !N r && Nat.beq (ρ r) r' then (match h r' with | some (.row _ _ xs) => some ((0, xs.length), []) | _ => none) else none
  | _ => none)
 | .asl r base lim, c => (match c with | .asl r' base' o n lim' => bif !N r && (Nat.beq (ρ r) r' && (Nat.beq base base' && Nat.beq lim lim')) then some ((o, n), []) else none | _ => none)
 | .nilp, c => (match c with | .val v => bif isNilP v then some ((), []) else none | _ => none)
 | .nils, c => (match c with | .val v => bif isNilS v then some ((), []) else none | _ => none)
 | .fzp d, c => (match c with
  | .fzp cs none room => bif Nat.beq d.size room then (match decD d cs with | some (x, []) => some (x, []) | _ => none) else none
  | .ptr r base none room => bif Nat.beq base 0 && Nat.beq d.size room then (match h r with
   | some (.cells segs) => (match frzD h d segs with | some (x, [], gs) => some (x, r :: gs) | _ => none)
   | _ => none) else none
  | _ => none)
 | .boolc b, c => (match c with | .bool b' => bif b == b' then some ((), []) else none | _ => none)
 | .clo f caps, c => (match c with | .clo f' caps' => bif Nat.beq f f' && (caps.all (fun r => !N r) && eqNats (caps.map ρ) caps') then some ((), []) else none | _ => none)
 | .sl0 r, c => (match c with | .sl r' o n => bif !N r && (Nat.beq (ρ r) r' && Nat.beq o 0) then some (n, []) else none | _ => none)
abbrev segsT : List CS -> Type
 | [] => Unit
 | [c] => c.T
 | c :: d :: r => c.T × segsT (d :: r)
def segsEnc : (ss : List CS) -> segsT ss -> List CV
 | [], _ => []
 | [c], x => [c.enc x]
 | c :: d :: r, x => c.enc x.1 :: segsEnc (d :: r) x.2
def segsDec (h : Heap) (ρ : Nat -> Nat) (N : Nat -> Bool) : (ss : List CS) -> List CV -> Option (segsT ss × List Nat)
 | [], [] => some ((), [])
 | [c], [x] => c.dec h ρ N x
 | c :: d :: r, x :: xs => (match c.dec h ρ N x with
  | some (y, gs) => (match segsDec h ρ N (d :: r) xs with | some (ys, gs') => some ((y, ys), gs ++ gs') | none => none)
  | none => none)
 | _, _ => none
inductive AS where
 | c (s : CS)
 | agg (ss : List CS)
 | dat (d : DT)
abbrev AS.T : AS -> Type
 | .c s => s.T
 | .agg ss => segsT ss
 | .dat d => d.T
def AS.enc : (s : AS) -> s.T -> AV
 | .c s, x => .c (s.enc x)
 | .agg ss, x => .agg (segsEnc ss x)
 | .dat d, x => .agg (encD d x)
def AS.dec (h : Heap) (ρ : Nat -> Nat) (N : Nat -> Bool) : (s : AS) -> AV -> Option (s.T × List Nat)
 | .c s, a => (match a with | .c x => s.dec h ρ N x | _ => none)
 | .agg ss, a => (match a with | .agg xs => segsDec h ρ N ss xs | _ => none)
 | .dat d, a => (match a with | .agg xs => (match frzD h d xs with | some (x, [], gs) => some (x, gs) | _ => none) | _ => none)
inductive RS where
 | cells (ss : List CS)
 | row (e : Nat) (k : IntKind)
 | rowd (e : Nat) (d : DT)
 | imap
 | deep (e eb : Nat)
 | part (ss : List CS)
abbrev RS.T : RS -> Type
 | .cells ss => segsT ss
 | .row _ _ => List Int
 | .rowd _ d => List d.T
 | .imap => List (Int × Int)
 | .deep _ _ => List Tree
 | .part ss => segsT ss
def RS.enc : (s : RS) -> s.T -> Reg
 | .cells ss, x => .cells (segsEnc ss x)
 | .row e k, xs => .row e k xs
 | .rowd e d, xs => .rowd e d xs
 | .imap, xs => .imap xs
 | .deep e eb, xs => .deep e eb xs
 | .part ss, x => .part (segsEnc ss x)
def RS.dec (h : Heap) (ρ : Nat -> Nat) (N : Nat -> Bool) : (s : RS) -> Reg -> Option (s.T × List Nat)
 | .cells ss, g => (match g with | .cells xs => segsDec h ρ N ss xs | _ => none)
 | .row e k, g => (match g with | .row e' k' xs => bif Nat.beq e e' && k == k' then some (xs, []) else none | _ => none)
 | .rowd e d, g => (match g with | .rowd e' d' xs => bif Nat.beq e e' then (match asDT d d' xs with | some ys => some (ys, []) | none => none) else none | _ => none)
 | .imap, g => (match g with | .imap xs => some (xs, []) | _ => none)
 | .part ss, g => (match g with | .part xs => segsDec h ρ N ss xs | _ => none)
 | .deep e eb, g => (match g with | .deep e' eb' xs => bif Nat.beq e e' && Nat.beq eb eb' then some (xs, []) else none | _ => none)
def RS.nil : (s : RS) -> Option s.T
 | .cells _ => none
 | .row _ _ => some []
 | .rowd _ _ => some []
 | .imap => none
 | .deep _ _ => some []
 | .part _ => none
inductive VS where
 | env (t : Nat) (s : AS)
 | reg (r : Nat) (s : RS)
abbrev VS.T : VS -> Type
 | .env _ s => s.T
 | .reg _ s => s.T
def VS.dec (ρ : Nat -> Nat) (N : Nat -> Bool) (st : St) : (v : VS) -> Option (v.T × List Nat)
 | .env t s => (match st.env t with | some a => s.dec st.heap ρ N a | none => none)
 | .reg r s => bif N r then (match s.nil with | some x => some (x, []) | none => none) else (match st.heap (ρ r) with | some g => s.dec st.heap ρ N g | none => none)
abbrev varsT : List VS -> Type
 | [] => Unit
 | [v] => v.T
 | v :: w :: r => v.T × varsT (w :: r)
def varsDec (ρ : Nat -> Nat) (N : Nat -> Bool) (st : St) : (vs : List VS) -> Option (varsT vs × List Nat)
 | [] => some ((), [])
 | [v] => v.dec ρ N st
 | v :: w :: r => (match v.dec ρ N st with
  | some (x, gs) => (match varsDec ρ N st (w :: r) with | some (y, gs') => some ((x, y), gs ++ gs') | none => none)
  | none => none)
def ofL {α : Type u} : List (Nat × α) -> Nat -> Option α
 | [], _ => none
 | (k, x) :: r, n => bif Nat.beq k n then some x else ofL r n
def VS.envs : (v : VS) -> v.T -> List (Nat × AV) -> List (Nat × AV)
 | .env t s, x, l => (t, s.enc x) :: l
 | .reg _ _, _, l => l
def VS.regs : (v : VS) -> v.T -> List (Nat × Reg) -> List (Nat × Reg)
 | .env _ _, _, l => l
 | .reg r s, x, l => (r, s.enc x) :: l
def varsEnvs : (vs : List VS) -> varsT vs -> List (Nat × AV)
 | [], _ => []
 | [v], x => v.envs x []
 | v :: w :: r, x => v.envs x.1 (varsEnvs (w :: r) x.2)
def varsRegs : (vs : List VS) -> varsT vs -> List (Nat × Reg)
 | [], _ => []
 | [v], x => v.regs x []
 | v :: w :: r, x => v.regs x.1 (varsRegs (w :: r) x.2)
inductive Src where
 | env (t i : Nat)
 | reg (q i : Nat)
structure Lay where
 fix : List (Nat × CS)
 vars : List VS
 roots : List (Nat × Src)
abbrev Lay.T (l : Lay) : Type := varsT l.vars
def CS.unit : (s : CS) -> Option s.T
 | .ptr _ _ _ => some ()
 | .full _ => some ()
 | .nilp => some ()
 | .nils => some ()
 | .junk _ => some ()
 | .clo _ _ => some ()
 | _ => none
def fixEnvs : List (Nat × CS) -> List (Nat × AV)
 | [] => []
 | (t, s) :: r => match s.unit with
  | some x => (t, .c (s.enc x)) :: fixEnvs r
  | none => fixEnvs r
def fixDec (ρ : Nat -> Nat) (N : Nat -> Bool) (st : St) : List (Nat × CS) -> Bool
 | [] => true
 | (t, s) :: r => match st.env t with
  | some (.c x) => (match s.dec st.heap ρ N x with | some _ => fixDec ρ N st r | none => false)
  | _ => false
def Lay.enc (l : Lay) (x : l.T) : St := { env := ofL (fixEnvs l.fix ++ varsEnvs l.vars x), heap := ofL (varsRegs l.vars x) }
def nameIn : List (Nat × Option Nat) -> Nat -> Option (Option Nat)
 | [], _ => none
 | (k, x) :: r, n => bif Nat.beq k n then some x else nameIn r n
def rhoOf (l : List (Nat × Option Nat)) (q : Nat) : Nat := match nameIn l q with | some (some r) => r | _ => q
def nilOf (l : List (Nat × Option Nat)) (q : Nat) : Bool := match nameIn l q with | some none => true | _ => false
def srcCV (st : St) (ρ : Nat -> Nat) : Src -> Option CV
 | .env t i => (match st.env t with | some (.c x) => some x | some (.agg xs) => xs[i]? | _ => none)
 | .reg q i => (match st.heap (ρ q) with | some (.cells xs) => xs[i]? | some (.part xs) => xs[i]? | _ => none)
def nameStep (st : St) (q : Nat) (s : Src) (acc : List (Nat × Option Nat)) : List (Nat × Option Nat) :=
 match srcCV st (rhoOf acc) s with
  | some (.full r) => (q, some r) :: acc
  | some (.ptr r _ _ _) => (q, some r) :: acc
  | some (.sl r _ _) => (q, some r) :: acc
  | some (.asl r _ _ _ _) => (q, some r) :: acc
  | some (.val v) => bif isNilS v then (q, none) :: acc else acc
  | _ => acc
def namesOf (st : St) : List (Nat × Src) -> List (Nat × Option Nat) -> List (Nat × Option Nat)
 | [], acc => acc
 | (q, s) :: l, acc => namesOf st l (nameStep st q s acc)
def touchOf (st : St) : List (Nat × Src) -> List (Nat × Option Nat) -> List Nat
 | [], _ => []
 | (q, s) :: l, acc => (match s with | .reg q' _ => [rhoOf acc q'] | _ => []) ++ touchOf st l (nameStep st q s acc)
def keysOf : List VS -> List Nat
 | [] => []
 | .env _ _ :: r => keysOf r
 | .reg q _ :: r => q :: keysOf r
def memN : Nat -> List Nat -> Bool
 | _, [] => false
 | n, x :: l => Nat.beq n x || memN n l
def distinct : List Nat -> Bool
 | [] => true
 | x :: l => !memN x l && distinct l
def keysOk (ρ : Nat -> Nat) (N : Nat -> Bool) (ks : List Nat) : Bool :=
 distinct ((ks.filter fun q => !N q).map ρ) && ks.all fun q => Nat.blt q hidN
def keysKept (ρ : Nat -> Nat) (N : Nat -> Bool) (ks : List Nat) : Bool :=
 ks.all fun q => Nat.blt q ioN || (Nat.beq (ρ q) q && !N q)
def Lay.decN (l : Lay) (st : St) (ρ : Nat -> Nat) (N : Nat -> Bool) : Option (l.T × List Nat) :=
 bif keysOk ρ N (keysOf l.vars) && fixDec ρ N st l.fix then (match varsDec ρ N st l.vars with
  | some (x, gs) => bif gs.all (fun r => !memN r (((keysOf l.vars).filter fun q => !N q).map ρ)) then some (x, gs) else none
  | none => none) else none
def Lay.dec (l : Lay) (st : St) : Option l.T :=
 let acc := namesOf st l.roots []
 bif keysKept (rhoOf acc) (nilOf acc) (keysOf l.vars) then (match l.decN st (rhoOf acc) (nilOf acc) with
 | some (x, _) => some x
 | none => none) else none
theorem ofL_mem {α : Type u} : ∀ {l : List (Nat × α)} {n : Nat} {x : α}, ofL l n = some x -> (n, x) ∈ l := by
 intro l
 induction l with
 | nil => intro n x h; cases h
 | cons p l ih =>
  obtain ⟨k, y⟩ := p
  intro n x h
  simp only [ofL] at h
  cases hb : Nat.beq k n <;> rw [hb] at h
  ·exact List.mem_cons_of_mem _ (ih h)
  ·obtain rfl := nbeq.1 hb
   cases h
   simp
theorem memN_iff {n : Nat} : ∀ {l : List Nat}, memN n l = true ↔ n ∈ l := by
 intro l
 induction l with
 | nil => simp [memN]
 | cons x l ih =>
  simp only [memN, Bool.or_eq_true, ih, List.mem_cons]
  exact ⟨fun h => h.imp (fun h => Nat.eq_of_beq_eq_true h) id, fun h => h.imp (fun h => by rw [h]; exact Nat.beq_refl x) id⟩
theorem distinct_map {ρ : Nat -> Nat} : ∀ {l : List Nat}, distinct (l.map ρ) = true -> ∀ r r', r ∈ l -> r' ∈ l -> ρ r = ρ r' -> r = r' := by
 intro l
 induction l with
 | nil => intro _ r r' h; simp at h
 | cons x l ih =>
  intro h r r' hr hr' e
  simp only [List.map_cons, distinct, Bool.and_eq_true, Bool.not_eq_true', <- Bool.not_eq_true, memN_iff, List.mem_map, not_exists, not_and] at h
  rcases List.mem_cons.1 hr with h5 | h5 <;> rcases List.mem_cons.1 hr' with h6 | h6
  ·rw [h5, h6]
  ·subst h5; exact absurd e.symm (h.1 r' h6)
  ·subst h6; exact absurd e (h.1 r h5)
  ·exact ih h.2 r r' h5 h6 e
theorem ofL_key {α : Type u} : ∀ {l : List (Nat × α)} {n : Nat} {x : α}, (n, x) ∈ l -> ∃ y, ofL l n = some y := by
 intro l
 induction l with
 | nil => intro n x h; simp at h
 | cons p l ih =>
  obtain ⟨k, y⟩ := p
  intro n x h
  simp only [ofL]
  cases hb : Nat.beq k n
  ·rcases List.mem_cons.1 h with e | h
   ·cases e; rw [Nat.beq_refl] at hb; cases hb
   ·exact ih h
  ·exact ⟨y, rfl⟩
theorem keysOf_reg : ∀ {l : List VS} {x : varsT l} {r : Nat}, r ∈ keysOf l -> ∃ g, (r, g) ∈ varsRegs l x := by
 have one : ∀ {v : VS} {x : v.T} {l : List VS} {lr : List (Nat × Reg)} {r : Nat}, (r ∈ keysOf l -> ∃ g, (r, g) ∈ lr) -> r ∈ keysOf (v :: l) -> ∃ g, (r, g) ∈ v.regs x lr := by
  intro v x l lr r h hr
  cases v with
  | env t s => exact h hr
  | reg q s =>
   simp only [keysOf, List.mem_cons] at hr
   simp only [VS.regs, List.mem_cons]
   rcases hr with rfl | hr
   ·exact ⟨_, .inl rfl⟩
   ·obtain ⟨g, hg⟩ := h hr; exact ⟨g, .inr hg⟩
 intro l
 induction l with
 | nil => intro x r h; simp [keysOf] at h
 | cons v r ih =>
  intro x q hq
  cases r with
  | nil => exact one (l := []) (fun h => by simp [keysOf] at h) hq
  | cons w r => exact one (l := w :: r) (fun h => ih h) hq
theorem reg_keysOf : ∀ {l : List VS} {x : varsT l} {r : Nat} {g : Reg}, (r, g) ∈ varsRegs l x -> r ∈ keysOf l := by
 have one : ∀ {v : VS} {x : v.T} {l : List VS} {lr : List (Nat × Reg)} {r : Nat} {g : Reg}, ((r, g) ∈ lr -> r ∈ keysOf l) -> (r, g) ∈ v.regs x lr -> r ∈ keysOf (v :: l) := by
  intro v x l lr r g h hr
  cases v with
  | env t s => exact h hr
  | reg q s =>
   simp only [VS.regs, List.mem_cons] at hr
   simp only [keysOf, List.mem_cons]
   rcases hr with e | hr
   ·cases e; exact .inl rfl
   ·exact .inr (h hr)
 intro l
 induction l with
 | nil => intro x r g h; simp [varsRegs] at h
 | cons v r ih =>
  intro x q g hq
  cases r with
  | nil => exact one (l := []) (fun h => by simp at h) hq
  | cons w r => exact one (l := w :: r) (fun h => ih h) hq
end Go.Abs
