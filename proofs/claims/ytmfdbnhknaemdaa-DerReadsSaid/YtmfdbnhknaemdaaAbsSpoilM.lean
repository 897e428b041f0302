/- A function that writes into a tree that is its caller's own: its contract on the machine's world; its entries for a caller's cells, and for a tree in a row. -/
import Derived.Test.YtmfdbnhknaemdaaAbsDef4M
import Derived.Test.YtmfdbnhknaemdaaAbsDeepM
set_option linter.unusedVariables false
set_option linter.unusedSimpArgs false
namespace Go.Abs
universe u
open Go.RowKit

abbrev SpoilS (e eb : Nat) : FL :=
  ⟨⟨[(0, .ptr 1000000 0 3)], [.reg 1000000 (.part [.int .u8, .full 1000001, .full 1000002]), .reg 1000001 (.row eb .u8), .reg 1000002 (.deep e eb)], [(1000000, .env 0 0), (1000001, .reg 1000000 1), (1000002, .reg 1000000 2)]⟩, 1,
    [(.ret, ⟨[], [.reg 1000000 (.part [.int .u8, .full 1, .full 2]), .reg 1 (.row eb .u8), .reg 2 (.deep e eb)], [(1, .reg 1000000 1), (2, .reg 1000000 2)]⟩)], [], false⟩

abbrev SpT : Type := (Int × Unit × Unit) × List Int × List Tree
def spX (x : Tree) : SpT := ((x.tag, (), ()), x.body, x.kids)
def spY (y : SpT) : Tree := .node y.1.1 y.2.1 y.2.2

section
variable {P : Program}

/-- what it does, on the world -/
def Spoils (P : Program) (f e eb : Nat) (x y : Tree) : Prop :=
  ∀ (w : World) (B o : Nat) (pre post : Array Value) (T : Nat) (S : List Nat) (c0 c1 c2 : Value), w.heap[B]? = some (.cells (pre ++ #[c0, c1, c2] ++ post) T (0, 0)) → pre.size = o → DeepAt w e eb S [x] [c0, c1, c2] → (B :: S).Nodup →
    Calls P f #[.pointer (some ⟨B, o, none⟩)] w fun en w' => en = .returned (.tuple #[]) ∧ ∃ (S' : List Nat) (d0 d1 d2 : Value), w'.heap[B]? = some (.cells (pre ++ #[d0, d1, d2] ++ post) T (0, 0)) ∧ DeepAt w' e eb S' [y] [d0, d1, d2] ∧ (B :: S').Nodup ∧
      (∀ b ∈ S', b ∈ S ∨ w.heap.size ≤ b) ∧ (∀ b, b < w.heap.size → b ≠ B → b ∉ S → w'.heap[b]? = w.heap[b]?) ∧ w'.os = w.os ∧ w'.tape = w.tape ∧ w'.output = w.output ∧ w.heap.size ≤ w'.heap.size

theorem spoil_raw {f e eb : Nat} {F : SpT → Option SpT} (H : CallsL P f (SpoilS e eb) F) {x : Tree} {y : SpT} (hF : F (spX x) = some y) : Spoils P f e eb x (spY y) := by
  intro w B o pre post T S c0 c1 c2 hB ho hD hnd
  -- the tree's parts
  obtain ⟨tag, body, kids⟩ := x
  obtain ⟨Sb, kv, hc0, hb1, hk1, hk2, hBb, hBk, hbk, hS⟩ : ∃ (Sb : List Nat) (kv : Value), c0 = .int .u8 tag ∧ BodyAt w eb Sb body c1 ∧ RegRel (fun _ => none) (fun _ => undef) w kv (.deep e eb kids) ∧ c2 = rootOf kv ∧ B ∉ Sb ∧ ¬ Blk kv B ∧ (∀ b ∈ Sb, ¬ Blk kv b) ∧ (∀ b, (b ∈ Sb ∨ Blk kv b) → b ∈ S) := by
    have hnd1 := (List.nodup_cons.1 hnd).1
    have hnd2 := (List.nodup_cons.1 hnd).2
    cases hD with
    | leaf tag body _ Sb S _ _ hb hr =>
      cases hr
      exact ⟨Sb, .slice none 0 0, rfl, hb, .inl ⟨rfl, rfl⟩, rfl, by simpa using hnd1, by simp, fun b _ => by simp, fun b h => by simpa using h⟩
    | node tag body kids _ b cap l' tail Sb Sk S _ _ hb hw hl hc hm hk hr =>
      cases hr
      rw [List.append_nil] at hnd1 hnd2
      rw [List.nodup_append] at hnd2
      obtain ⟨n1, n2, n3⟩ := hnd2
      refine ⟨Sb, .tuple (.slice (some ⟨b, 0, none⟩) kids.length cap :: Sk.map ptrTo).toArray, rfl, hb, .inr ⟨b, cap, l', tail, Sk, Sk, rfl, hw, hk, hl, hc, hm, n2, (List.nodup_cons.1 n2).2, fun _ h => h, hk.obj⟩, rfl, ?_, ?_, ?_, ?_⟩
      · exact fun h => hnd1 (List.mem_append_left _ h)
      · rw [Blk_tuple]
        exact fun h => hnd1 (List.mem_append_right _ (by simp only [List.mem_cons]; exact h.imp Eq.symm id))
      · intro x hx
        rw [Blk_tuple]
        exact fun h => n3 x hx x (by simp only [List.mem_cons]; exact h.imp Eq.symm id) rfl
      · intro x hx
        rw [Blk_tuple] at hx
        simp only [List.append_nil, List.mem_append, List.mem_cons]
        exact hx.imp id (Or.imp Eq.symm id)
  subst hc0
  obtain ⟨bv1, hrow, hbvb, hc1⟩ : ∃ bv1, RegRel (fun _ => none) (fun _ => undef) w bv1 (.row eb .u8 body) ∧ (∀ b, Blk bv1 b ↔ b ∈ Sb) ∧ c1 = bv1 := by
    rcases hb1 with ⟨rfl, rfl, rfl⟩ | ⟨b, cap, tail, rfl, hh, hl, hm, rfl⟩
    · exact ⟨_, .inl ⟨rfl, rfl⟩, by simp, rfl⟩
    · exact ⟨_, .inr ⟨b, cap, tail, rfl, hh, hl, hm⟩, by simp [eq_comm], rfl⟩
  subst hc1
  subst hk2
  let bvP : Value := .tuple #[.pointer (some ⟨B, o, none⟩), .agg pre, .agg post, .int .i64 (T : Int)]
  let β : Nat → Value := fun q => if q = 1000000 then bvP else if q = 1000001 then c1 else if q = 1000002 then kv else undef
  let fp : FP := ⟨fun q => if q = 1000000 ∨ q = 1000001 ∨ q = 1000002 then some (β q) else none, fun _ => undef, []⟩
  have b0 : β 1000000 = bvP := rfl
  have b1 : β 1000001 = c1 := rfl
  have b2 : β 1000002 = kv := rfl
  have hkeys : ∀ r g, ((SpoilS e eb).inp.enc (spX (.node tag body kids))).heap r = some g → (r = 1000000 ∧ g = .part [.int .u8 tag, .full 1000001, .full 1000002]) ∨ (r = 1000001 ∧ g = .row eb .u8 body) ∨ (r = 1000002 ∧ g = .deep e eb kids) := by
    intro r g h
    have hm : (r, g) ∈ [((1000000 : Nat), Reg.part [.int .u8 tag, .full 1000001, .full 1000002]), (1000001, Reg.row eb .u8 body), (1000002, Reg.deep e eb kids)] := ofL_mem h
    simp only [List.mem_cons, Prod.mk.injEq, List.not_mem_nil, or_false] at hm
    exact hm
  have g0 : ((SpoilS e eb).inp.enc (spX (.node tag body kids))).heap 1000000 = some (.part [.int .u8 tag, .full 1000001, .full 1000002]) := rfl
  have g1 : ((SpoilS e eb).inp.enc (spX (.node tag body kids))).heap 1000001 = some (.row eb .u8 body) := rfl
  have g2 : ((SpoilS e eb).inp.enc (spX (.node tag body kids))).heap 1000002 = some (.deep e eb kids) := rfl
  have hblk : ∀ q b, (q = 1000000 ∨ q = 1000001 ∨ q = 1000002) → Blk (β q) b → b = B ∨ b ∈ S := by
    intro q b hq hb
    rcases hq with rfl | rfl | rfl
    · rw [b0] at hb
      exact .inl (Blk_part.1 hb).symm
    · rw [b1] at hb
      exact .inr (hS b (.inl ((hbvb b).1 hb)))
    · rw [b2] at hb
      exact .inr (hS b (.inr hb))
  have R0 : Rel P w fp 1 β ((SpoilS e eb).inp.enc (spX (.node tag body kids))) { tmps := [Value.pointer (some ⟨B, o, none⟩)].toArray, defers := [] } w := by
    refine ⟨rfl, rfl, by decide, ?_, ?_, ?_, ?_, ?_, ?_, rfl, rfl, rfl, Nat.le_refl _, fun _ _ _ => rfl, ?_, ?_⟩
    · intro t av ht
      have hm : (t, av) ∈ [((0 : Nat), AV.c (.ptr 1000000 0 none 3))] := ofL_mem ht
      simp only [List.mem_singleton, Prod.mk.injEq] at hm
      obtain ⟨rfl, rfl⟩ := hm
      simp only [AVRel, CVRel]
      exact ⟨_, g0, rfl, B, o, pre, post, _, rfl, rfl, by simp [segSize, CV.size]⟩
    · intro r g h
      rcases hkeys r g h with ⟨rfl, rfl⟩ | ⟨rfl, rfl⟩ | ⟨rfl, rfl⟩
      · refine ⟨B, o, pre, _, post, T, rfl, ho, hB, ?_⟩
        simp only [SegsRel, CVRel]
        exact ⟨_, _, rfl, rfl, rfl, _, _, rfl, hb1.one, ⟨_, g1, rfl, hb1.one⟩, _, _, rfl, hD.one _ (by simp), ⟨_, g2, rfl, hD.one _ (by simp)⟩, rfl⟩
      · exact hrow
      · rcases hk1 with h | h
        · exact .inl h
        · exact .inr h
    · intro r r' g g' b h h' hl hl' hb hb'
      rcases hkeys r g h with ⟨rfl, rfl⟩ | ⟨rfl, rfl⟩ | ⟨rfl, rfl⟩ <;> rcases hkeys r' g' h' with ⟨rfl, rfl⟩ | ⟨rfl, rfl⟩ | ⟨rfl, rfl⟩ <;> first | rfl | skip
      · rw [b0] at hb; rw [b1] at hb'
        have := Blk_part.1 hb; subst this
        exact absurd ((hbvb _).1 hb') hBb
      · rw [b0] at hb; rw [b2] at hb'
        have := Blk_part.1 hb; subst this
        exact absurd hb' hBk
      · rw [b1] at hb; rw [b0] at hb'
        have := Blk_part.1 hb'; subst this
        exact absurd ((hbvb _).1 hb) hBb
      · rw [b1] at hb; rw [b2] at hb'
        exact absurd hb' (hbk _ ((hbvb _).1 hb))
      · rw [b2] at hb; rw [b0] at hb'
        have := Blk_part.1 hb'; subst this
        exact absurd hb hBk
      · rw [b2] at hb; rw [b1] at hb'
        exact absurd hb (hbk _ ((hbvb _).1 hb'))
    · rintro b ⟨r, g, h, hl, hb⟩
      right
      have hr : r = 1000000 ∨ r = 1000001 ∨ r = 1000002 := by
        rcases hkeys r g h with ⟨h, _⟩ | ⟨h, _⟩ | ⟨h, _⟩
        · exact .inl h
        · exact .inr (.inl h)
        · exact .inr (.inr h)
      exact ⟨r, β r, by simp only [fp, if_pos hr], hb⟩
    · rintro b ⟨r, hr, hb⟩
      exact absurd hb Blk_undef
    · intro r hr
      have e1 : ¬ r = 1000000 := by have : hidN = 2000000 := rfl; omega
      have e2 : ¬ r = 1000001 := by have : hidN = 2000000 := rfl; omega
      have e3 : ¬ r = 1000002 := by have : hidN = 2000000 := rfl; omega
      simp only [β, if_neg e1, if_neg e2, if_neg e3, fp]
    · intro q bv g hq hg hl
      simp only [fp] at hq
      split at hq
      · cases hq; rfl
      · cases hq
    · intro q bv hq
      simp only [fp] at hq
      split at hq
      · rename_i h
        have : ioN = 1000000 := rfl
        omega
      · cases hq
  refine (H [Value.pointer (some ⟨B, o, none⟩)] (spX (.node tag body kids)) y w fp β rfl rfl hF R0).mono ?_
  rintro en w' ⟨β', vs, R, he, hlen⟩
  have hvs : vs = [] := List.eq_nil_of_length_eq_zero (hlen (fun t n h => by cases h))
  subst hvs
  refine ⟨he, ?_⟩
  obtain ⟨⟨tag', u1, u2⟩, body', kids'⟩ := y
  have k0 : ((encOut (SpoilS e eb).outs ((tag', u1, u2), body', kids')).2).heap 1000000 = some (.part [.int .u8 tag', .full 1, .full 2]) := rfl
  have k1 : ((encOut (SpoilS e eb).outs ((tag', u1, u2), body', kids')).2).heap 1 = some (.row eb .u8 body') := rfl
  have k2 : ((encOut (SpoilS e eb).outs ((tag', u1, u2), body', kids')).2).heap 2 = some (.deep e eb kids') := rfl
  have ha := R.anc 1000000 bvP _ rfl k0 trivial
  obtain ⟨b', sh', pre', cs, post', T', hbv', hps, hh, hs⟩ := R.heap 1000000 _ k0
  rw [ha] at hbv'
  have hTT : T' = T := by
    have := congrArg (fun v => match v with | Value.tuple a => a[3]? | _ => none) hbv'
    simp only [bvP] at this
    have h2 : (T : Int) = T' := by simpa using this
    omega
  subst hTT
  simp only [bvP, Value.tuple.injEq, Array.mk.injEq, List.cons.injEq, Value.pointer.injEq, Option.some.injEq, Addr.mk.injEq, and_true, true_and, Value.agg.injEq] at hbv'
  obtain ⟨⟨rfl, rfl⟩, rfl, rfl⟩ := hbv'
  simp only [SegsRel, CVRel] at hs
  obtain ⟨d0, r0, hcs, _, hd0, d1, r1, hr0, _, ⟨gg1, hgg1, hp1⟩, d2, r2, hr1, _, ⟨gg2, hgg2, hp2⟩, hr2⟩ := hs
  rw [k1] at hgg1
  cases hgg1
  rw [k2] at hgg2
  cases hgg2
  simp only [FullOk] at hp1 hp2
  have hcs3 : cs = #[d0, d1, d2] := by
    apply Array.toList_inj.1
    rw [hcs, hr0, hr1, hr2]
  subst hcs3
  subst hd0
  obtain ⟨Sb', q1, q2, q3⟩ := row_body (R.heap 1 _ k1)
  rw [← hp1.1] at q1
  have hdis : ∀ b, b ∈ Sb' → ¬ Blk (β' 2) b := fun b hb hb' => by
    have := R.sep 1 2 _ _ b k1 k2 trivial trivial ((q3 b).1 hb) hb'
    cases this
  obtain ⟨S', hS1, hS2, hS3⟩ := deep_one (tag := tag') q1 q2 (R.heap 2 _ k2) hp2.1 hdis
  have hown : ∀ b ∈ S', OwnR ((encOut (SpoilS e eb).outs ((tag', u1, u2), body', kids')).2).heap β' b ∧ b ≠ B := by
    intro b hb
    rcases hS3 b hb with h | h
    · have h := (q3 b).1 h
      refine ⟨⟨1, _, k1, trivial, h⟩, fun e1 => ?_⟩
      have := R.sep 1 1000000 _ _ b k1 k0 trivial trivial h (by rw [ha, e1]; exact Blk_part.2 rfl)
      cases this
    · refine ⟨⟨2, _, k2, trivial, h⟩, fun e1 => ?_⟩
      have := R.sep 2 1000000 _ _ b k2 k0 trivial trivial h (by rw [ha, e1]; exact Blk_part.2 rfl)
      cases this
  have hfpb : ∀ b, fp.blk b → b = B ∨ b ∈ S := by
    rintro b ⟨q, bv, hq, hb⟩
    simp only [fp] at hq
    split at hq
    · rename_i hq'
      cases hq
      exact hblk q b hq' hb
    · cases hq
  refine ⟨S', _, d1, d2, hh, hS1, List.nodup_cons.2 ⟨fun h => (hown _ h).2 rfl, hS2⟩, fun b hb => ?_, fun b hb h1 h2 => R.keep b hb fun h => ?_, R.os, R.tape, R.output, R.grow⟩
  · rcases R.lo b (hown b hb).1 with h | h
    · exact .inr h
    · rcases hfpb b h with h | h
      · exact absurd h (hown b hb).2
      · exact .inl h
  · rcases hfpb b h with h | h
    · exact h1 h
    · exact h2 h
end

/-! ### The entries -/
/-- of cells of the caller's own, which it gives up with all that they hold -/
def spoilTop (e eb : Nat) (F : SpT → Option SpT) : Ent :=
  ⟨fun d l h k => match l with
    | [.c (.ptr r 0 none 3)] => (match h r with
      | some (.cells [.int .u8 x, .full q1, .full q2]) => (match h q1, h q2 with
        | some (.row eb' .u8 body), some (.deep e' eb2 kids) => bif Nat.beq e e' && Nat.beq eb eb' && Nat.beq eb eb2 then (F (spX (.node x body kids))).bind fun _ => k ⟨.tup [], [(r, .dead), (q1, .dead), (q2, .dead)], [r, q1, q2]⟩ else none
        | _, _ => none)
      | _ => none)
    | _ => none, false⟩

/-- of a tree in a row, which the cells that were handed in speak of -/
def spoilK (e eb : Nat) (F : SpT → Option SpT) : Ent :=
  ⟨fun d l h k => match l with
    | [.c (.ptr r 0 (some (i, 3)) 3)] => (match h r, h 1000000, h d with
      | some (.deep e' eb' xs), some (.part [c0, c1, .full r']), none => bif Nat.beq r r' && Nat.beq e e' && Nat.beq eb eb' && one1 c0 && one1 c1 then (F (spX (xs.getD i dTree))).bind fun y =>
          k ⟨.tup [], [(r, .dead), (d, .deep e eb (xs.set i (spY y))), (1000000, .part [c0, c1, .full d])], [r, d, 1000000]⟩ else none
      | _, _, _ => none)
    | _ => none, false⟩

section
variable {P : Program} {w0 : World} {fp : FP} {nt : Nat} {β : Nat → Value} {st : St} {a : Act} {w : World}

/-- own regions are given up, and all that is in them -/
theorem Rel.gone (R : Rel P w0 fp nt β st a w) {dst : Option Nat} (hd : dstOk nt dst = true) {gs : List Nat} {w' : World} {hr : List Nat} (hos : w'.os = w.os) (htape : w'.tape = w.tape) (hout : w'.output = w.output) (hgrow : w.heap.size ≤ w'.heap.size)
    (hgs : ∀ r ∈ gs, ∃ g, st.heap r = some g) (hblk : ∀ b, b < w.heap.size → (∀ r ∈ gs, ∀ g, st.heap r = some g → g.live → ¬ Blk (β r) b) → w'.heap[b]? = w.heap[b]?) :
    Rel P w0 fp nt β (st.app dst ⟨.tup [], gs.map (fun r => (r, Reg.dead)), hr⟩) (a.put dst (.tuple #[])) w' := by
  have hdead : ∀ (l : List Nat) (h : Heap) r, heapPut h (l.map fun r => (r, Reg.dead)) r = if r ∈ l then some .dead else h r := by
    intro l
    induction l with
    | nil => intro h r; simp [heapPut]
    | cons x l ih =>
      intro h r
      simp only [List.map_cons, heapPut]
      rw [ih]
      by_cases h1 : r ∈ l
      · simp [h1]
      · by_cases h2 : r = x
        · subst h2; simp [h1, upd_same]
        · simp [h1, h2, upd_ne _ _ h2]
  have look : ∀ r g1, heapPut st.heap (gs.map fun r => (r, Reg.dead)) r = some g1 → g1.live → st.heap r = some g1 ∧ r ∉ gs := by
    intro r g1 h1 hl
    rw [hdead] at h1
    split at h1
    · cases h1; cases hl
    · rename_i hm; exact ⟨h1, hm⟩
  simp only [St.app]
  refine R.update (β' := β) (w' := w') hd hos htape hout hgrow (fun _ _ => rfl) (fun b hb hno => hblk b hb fun r hr g hg hl hbb => hno ⟨r, g, hg, hl, hbb⟩) ?_ ?_ ?_ ?_ ?_ (fun _ => by simp only [AVRel, AVsRel]; exact ⟨[], rfl, rfl⟩)
  · rintro b ⟨r, g1, h1, h2, h3⟩
    exact .inl ⟨r, g1, (look r g1 h1 h2).1, h2, h3⟩
  · intro r g1 h1
    rw [hdead]
    split
    · exact ⟨.dead, rfl, by cases g1 <;> trivial, fun h => h.elim⟩
    · exact ⟨g1, h1, .refl g1, fun _ => rfl⟩
  · intro r g1 hio h1
    rw [hdead] at h1
    split at h1
    · rename_i hm; exact hgs r hm
    · exact ⟨g1, h1⟩
  · intro M r g1 h1
    cases g1 with
    | dead => trivial
    | _ =>
      obtain ⟨h2, h3⟩ := look r _ h1 trivial
      refine (R.heap r _ h2).mono M fun b hb hl => hblk b (OwnR.lt R ⟨r, _, h2, hl, hb⟩) fun r' hr' g' hg' hl' hb' => ?_
      have := R.sep r r' _ g' b h2 hg' hl hl' hb hb'
      subst this
      exact h3 hr'
  · intro r r' g1 g2 b h1 h2 l1 l2 e1 e2
    exact R.sep r r' g1 g2 b (look r g1 h1 l1).1 (look r' g2 h2 l2).1 l1 l2 e1 e2

theorem segs3 {h : Heap} {x : Int} {q1 q2 : Nat} {l : List Value} (H : SegsRel h β w [.int .u8 x, .full q1, .full q2] l) : ∃ v1 v2, l = [.int .u8 x, v1, v2] ∧ CVRel h β w (.full q1) v1 ∧ CVRel h β w (.full q2) v2 := by
  simp only [SegsRel] at H
  obtain ⟨u0, r0, rfl, _, h0, u1, r1, rfl, _, h1, u2, r2, rfl, _, h2, rfl⟩ := H
  simp only [CVRel] at h0
  subst h0
  exact ⟨u1, u2, rfl, h1, h2⟩

theorem spoilTop_ok {f e eb : Nat} {fn : Func} {c : Code} {F : SpT → Option SpT} (hf : P.funcs[f]? = some fn) (hname : (fn.name == "runtime.NumGoroutine") = false) (hb : fn.body = some c) (H : CallsL P f (SpoilS e eb) F) : EntOk P f (spoilTop e eb F) := by
  refine ⟨fun d l h k => ?_, fun h => (by cases h), fun o d l us δ next Q a1 a2 a3 a4 a5 a6 a7 a8 => ?_⟩
  · simp only [spoilTop]
    split
    · split
      · split
        · rename_i eb' body e' eb2 kids _ _
          cases (Nat.beq e e' && Nat.beq eb eb' && Nat.beq eb eb2) with
          | false => rfl
          | true =>
            simp only [cond_true]
            cases F _ with
            | none => rfl
            | some y => rfl
        · rfl
      · rfl
    · rfl
  · rename_i w0 fp nt β st a w
    simp only [spoilTop] at a6
    split at a6
    · rename_i r
      split at a6
      · rename_i x q1 q2 hg
        split at a6
        · rename_i eb' body e' eb2 kids hg1 hg2
          have h70 := cond_some a6
          have h1 := h70.1
          replace a6 := h70.2
          clear h70
          simp only [Bool.and_eq_true] at h1
          obtain ⟨⟨h1, h2⟩, h3⟩ := h1
          obtain rfl := nbeq.1 h1
          obtain rfl := nbeq.1 h2
          obtain rfl := nbeq.1 h3
          cases hF : F (spX (.node x body kids)) with
          | none => rw [hF] at a6; cases a6
          | some y =>
          rw [hF] at a6
          cases a6
          have a2' := a2
          simp only [AVsRel] at a2'
          obtain ⟨v1, r1, rfl, hv1, rfl⟩ := a2'
          simp only [AVRel, CVRel] at hv1
          obtain ⟨g, hg', hp⟩ := hv1
          rw [hg] at hg'
          cases hg'
          obtain ⟨b, hbv, rfl, _⟩ := hp
          obtain ⟨b', T, cs, hbv', hh, hs⟩ := a4.heap r _ hg
          obtain rfl : b' = b := by rw [hbv] at hbv'; simpa using hbv'.symm
          obtain ⟨u1, u2, hcs, hu1, hu2⟩ := segs3 hs
          simp only [CVRel] at hu1 hu2
          obtain ⟨gg1, hgg1, hp1⟩ := hu1
          obtain ⟨gg2, hgg2, hp2⟩ := hu2
          rw [hg1] at hgg1
          cases hgg1
          rw [hg2] at hgg2
          cases hgg2
          simp only [FullOk] at hp1 hp2
          obtain ⟨Sb, m1, m2, m3⟩ := row_body (a4.heap q1 _ hg1)
          rw [← hp1.1] at m1
          have hdis : ∀ b, b ∈ Sb → ¬ Blk (β q2) b := fun b hb hb' => by
            have := a4.sep q1 q2 _ _ b hg1 hg2 trivial trivial ((m3 b).1 hb) hb'
            subst this
            rw [hg1] at hg2
            cases hg2
          obtain ⟨S, hS1, hS2, hS3⟩ := deep_one (tag := x) m1 m2 (a4.heap q2 _ hg2) hp2.1 hdis
          have hBr : Blk (β r) b' := by rw [hbv]; exact Blk_ptr.2 rfl
          have hown : ∀ x ∈ S, (Blk (β q1) x ∨ Blk (β q2) x) ∧ x ≠ b' := by
            intro x hx
            rcases hS3 x hx with h | h
            · have h := (m3 x).1 h
              refine ⟨.inl h, fun e1 => ?_⟩
              have := a4.sep q1 r _ _ x hg1 hg trivial trivial h (by rw [e1]; exact hBr)
              subst this
              rw [hg1] at hg
              cases hg
            · refine ⟨.inr h, fun e1 => ?_⟩
              have := a4.sep q2 r _ _ x hg2 hg trivial trivial h (by rw [e1]; exact hBr)
              subst this
              rw [hg2] at hg
              cases hg
          have hcs3 : cs = #[] ++ #[.int .u8 x, u1, u2] ++ #[] := by
            apply Array.toList_inj.1
            rw [hcs]
            rfl
          rw [hcs3] at hh
          have hcall := spoil_raw H hF w b' 0 #[] #[] T S _ _ _ hh rfl hS1 (List.nodup_cons.2 ⟨fun h => (hown _ h).2 rfl, hS2⟩)
          unfold Oper.wp
          have hv0 : ([Value.pointer (some ⟨b', 0 + offOf none, none⟩)] : List Value).toArray = #[Value.pointer (some ⟨b', 0, none⟩)] := rfl
          rw [a1, hv0, MuLone.run_callFunc_enter hf hname hb, Oper.upon_enter]
          refine hcall.mono ?_
          rintro en w' ⟨rfl, S', d0, d1, d2, _, _, _, _, hkeep, h5, h6, h7, h8⟩
          refine a7 (fun t n h => by cases h) _ _ ⟨β, ?_⟩
          refine a4.gone (gs := [r, q1, q2]) a5 h5 h6 h7 h8 ?_ ?_
          · intro r' hr'
            simp only [List.mem_cons, List.not_mem_nil, or_false] at hr'
            rcases hr' with rfl | rfl | rfl
            · exact ⟨_, hg⟩
            · exact ⟨_, hg1⟩
            · exact ⟨_, hg2⟩
          · intro b hb hno
            refine hkeep b hb (fun e1 => hno r (by simp) _ hg trivial (by rw [e1]; exact hBr)) (fun h => ?_)
            rcases (hown b h).1 with h' | h'
            · exact hno q1 (by simp) _ hg1 trivial h'
            · exact hno q2 (by simp) _ hg2 trivial h'
        · cases a6
      · cases a6
    · cases a6

theorem spoilK_ok {f e eb : Nat} {fn : Func} {c : Code} {F : SpT → Option SpT} (hf : P.funcs[f]? = some fn) (hname : (fn.name == "runtime.NumGoroutine") = false) (hb : fn.body = some c) (H : CallsL P f (SpoilS e eb) F) : EntOk P f (spoilK e eb F) := by
  refine ⟨fun d l h k => ?_, fun h => (by cases h), fun o d l us δ next Q a1 a2 a3 a4 a5 a6 a7 a8 => ?_⟩
  · simp only [spoilK]
    split
    · split
      · rename_i e' eb' xs c0 c1 r' _ _ _
        cases (_ && _) with
        | false => rfl
        | true =>
          simp only [cond_true]
          cases F _ with
          | none => rfl
          | some y => rfl
      · rfl
    · rfl
  · rename_i w0 fp nt β st a w
    simp only [spoilK] at a6
    split at a6
    · rename_i r i
      split at a6
      · rename_i e' eb' xs c0 c1 r' hg hg0 hgd
        have h70 := cond_some a6
        have h1 := h70.1
        replace a6 := h70.2
        clear h70
        simp only [Bool.and_eq_true] at h1
        obtain ⟨⟨⟨⟨h1, h2⟩, h3⟩, hc0⟩, hc1⟩ := h1
        obtain rfl := nbeq.1 h1
        obtain rfl := nbeq.1 h2
        obtain rfl := nbeq.1 h3
        cases hF : F (spX (xs.getD i dTree)) with
        | none => rw [hF] at a6; cases a6
        | some y =>
        rw [hF] at a6
        cases a6
        have a2' := a2
        simp only [AVsRel] at a2'
        obtain ⟨v1, r1, rfl, hv1, rfl⟩ := a2'
        simp only [AVRel, CVRel] at hv1
        obtain ⟨g, hg', hp⟩ := hv1
        rw [hg] at hg'
        cases hg'
        obtain ⟨_, k, b, n, cap, hk, hlt, hroot, rfl⟩ := hp
        cases hk
        have hgx : xs.getD i dTree = xs[i] := by rw [List.getD_eq_getElem?_getD, List.getElem?_eq_getElem hlt]; rfl
        rw [hgx] at hF
        rcases a4.heap r _ hg with ⟨hbn, _⟩ | ⟨B, cap', l, tail, S, S', hbv, hh, hs, hl, hc, hm, hnd, hnd', hss, hex⟩
        · rw [hbn] at hroot; cases hroot
        have hBb : B = b ∧ xs.length = n ∧ cap' = cap := by
          rw [hbv] at hroot
          simpa [rootOf] using hroot
        obtain ⟨rfl, _, _⟩ := hBb
        obtain ⟨S1, S2, S3, l1, u0, u1, u2, l3, rfl, rfl, hl1, h4, h5, h6⟩ := hs.split hlt
        have hnB := (List.nodup_cons.1 hnd).1
        rw [List.nodup_append] at hnd'
        obtain ⟨n1, n2, n3⟩ := hnd'
        rw [List.nodup_append] at n2
        obtain ⟨n4, n5, n6⟩ := n2
        have hold : ∀ x ∈ S1 ++ (S2 ++ S3), x < w.heap.size := fun x hx => by
          obtain ⟨o, ho⟩ := hex x (hss x hx)
          exact (Array.getElem?_eq_some_iff.1 ho).1
        have hBlt : B < w.heap.size := (Array.getElem?_eq_some_iff.1 hh).1
        have hcells : (l1 ++ ([u0, u1, u2] ++ l3) ++ tail).toArray = l1.toArray ++ #[u0, u1, u2] ++ (l3 ++ tail).toArray := by
          apply Array.toList_inj.1
          simp
        have hh2 := hh
        rw [hcells] at hh2
        have hcall := spoil_raw H hF w B (3 * i + 0) l1.toArray (l3 ++ tail).toArray e S2 u0 u1 u2 hh2 (by simp; omega) h5 (List.nodup_cons.2 ⟨fun h => hnB (hss B (by simp [h])), n4⟩)
        unfold Oper.wp
        have hv0 : ([Value.pointer (some ⟨B, 3 * i + 0, none⟩)] : List Value).toArray = #[Value.pointer (some ⟨B, 3 * i + 0, none⟩)] := rfl
        rw [a1, hv0, MuLone.run_callFunc_enter hf hname hb, Oper.upon_enter]
        refine hcall.mono ?_
        rintro en w' ⟨rfl, T2, d0, d1, d2, hB', hD', hndT, hTn, hkeep, q5, q6, q7, q8⟩
        -- the row of trees, behind it
        have hnB2 := (List.nodup_cons.1 hndT).1
        have hT2 := (List.nodup_cons.1 hndT).2
        have hkS1 : ∀ x ∈ S1, w'.heap[x]? = w.heap[x]? := fun x hx => hkeep x (hold x (by simp [hx])) (fun h => hnB (h ▸ hss x (by simp [hx]))) (fun h => n3 x hx x (by simp [h]) rfl)
        have hkS3 : ∀ x ∈ S3, w'.heap[x]? = w.heap[x]? := fun x hx => hkeep x (hold x (by simp [hx])) (fun h => hnB (h ▸ hss x (by simp [hx]))) (fun h => n6 x h x hx rfl)
        have hj : DeepAt w' e eb (S1 ++ (T2 ++ S3)) (xs.set i (spY y)) (l1 ++ ([d0, d1, d2] ++ l3)) := (h4.mono hkS1).join hlt hD' (h6.mono hkS3)
        have hTd : ∀ x ∈ T2, x ∉ S1 ∧ x ∉ S3 := by
          intro x hx
          rcases hTn x hx with h | h
          · exact ⟨fun h' => n3 x h' x (by simp [h]) rfl, fun h' => n6 x h x h' rfl⟩
          · exact ⟨fun h' => by have := hold x (by simp [h']); omega, fun h' => by have := hold x (by simp [h']); omega⟩
        have hndN : (B :: (S1 ++ (T2 ++ S3))).Nodup := by
          refine List.nodup_cons.2 ⟨fun h => ?_, ?_⟩
          · simp only [List.mem_append] at h
            rcases h with h | h | h
            · exact hnB (hss B (by simp [h]))
            · exact hnB2 h
            · exact hnB (hss B (by simp [h]))
          · rw [List.nodup_append]
            refine ⟨n1, ?_, fun x hx y hy e1 => ?_⟩
            · rw [List.nodup_append]
              exact ⟨hT2, n5, fun x hx y hy e1 => (hTd x hx).2 (e1 ▸ hy)⟩
            · subst e1
              simp only [List.mem_append] at hy
              rcases hy with hy | hy
              · exact (hTd x hy).1 hx
              · exact n3 x hx x (by simp [hy]) rfl
        let bv : Value := .tuple (.slice (some ⟨B, 0, none⟩) xs.length cap' :: (S1 ++ (T2 ++ S3)).map ptrTo).toArray
        have hbvB : ∀ x, Blk bv x → Blk (β r) x ∨ w.heap.size ≤ x := by
          intro x hx
          rcases Blk_tuple.1 hx with h | h
          · exact .inl (by rw [hbv]; exact Blk_tuple.2 (.inl h))
          · simp only [List.mem_append] at h
            rcases h with h | h | h
            · exact .inl (by rw [hbv]; exact Blk_tuple.2 (.inr (hss x (by simp [h]))))
            · rcases hTn x h with h | h
              · exact .inl (by rw [hbv]; exact Blk_tuple.2 (.inr (hss x (by simp [h]))))
              · exact .inr h
            · exact .inl (by rw [hbv]; exact Blk_tuple.2 (.inr (hss x (by simp [h]))))
        have hd : d < nt := by have := a5; rw [a3] at this; simpa [dstOk, Nat.blt_eq] using this
        have hsm := a4.small
        have hdr : d ≠ r := fun h => by rw [h, hg] at hgd; cases hgd
        have hr0 : r ≠ 1000000 := fun h => by rw [h, hg0] at hg; cases hg
        have hd0 : d ≠ 1000000 := fun h => by have : ioN = 1000000 := rfl; omega
        have look : ∀ q g1, upd (upd (upd st.heap r (some .dead)) d (some (.deep e eb (xs.set i (spY y))))) 1000000 (some (.part [c0, c1, .full d])) q = some g1 → g1.live →
            (q = 1000000 ∧ g1 = .part [c0, c1, .full d]) ∨ (q = d ∧ g1 = .deep e eb (xs.set i (spY y))) ∨ (q ≠ 1000000 ∧ q ≠ d ∧ q ≠ r ∧ st.heap q = some g1) := by
          intro q g1 h hl
          by_cases e1 : q = 1000000
          · subst e1; rw [upd_same] at h; cases h; exact .inl ⟨rfl, rfl⟩
          · rw [upd_ne _ _ e1] at h
            by_cases e2 : q = d
            · subst e2; rw [upd_same] at h; cases h; exact .inr (.inl ⟨rfl, rfl⟩)
            · rw [upd_ne _ _ e2] at h
              by_cases e3 : q = r
              · subst e3; rw [upd_same] at h; cases h; cases hl
              · rw [upd_ne _ _ e3] at h; exact .inr (.inr ⟨e1, e2, e3, h⟩)
        have hβ : ∀ q, q ≠ d → upd β d bv q = β q := fun q h => upd_ne _ _ h
        have hβd : upd β d bv d = bv := upd_same _ _ _
        have hrB : ∀ x, Blk (β r) x → ¬ (x < w.heap.size ∧ x ≠ B ∧ x ∉ S2) ∨ True := fun _ _ => .inr trivial
        have hkeepN : ∀ x, x < w.heap.size → ¬ Blk (β r) x → w'.heap[x]? = w.heap[x]? := fun x hx hno => hkeep x hx (fun h => hno (by rw [hbv, h]; exact Blk_tuple.2 (.inl rfl))) (fun h => hno (by rw [hbv]; exact Blk_tuple.2 (.inr (hss x (by simp [h])))))
        refine a7 (fun t n h => by cases h) _ _ ⟨upd β d bv, ?_⟩
        show Rel P w0 fp nt (upd β d bv) { env := putEnv st.env o.dst (.tup []), heap := upd (upd (upd st.heap r (some .dead)) d (some (.deep e eb (xs.set i (spY y))))) 1000000 (some (.part [c0, c1, .full d])) } (a.put o.dst (.tuple #[])) w'
        refine a4.update (β' := upd β d bv) (w' := w') a5 q5 q6 q7 q8 ?_ (fun x hx hno => hkeepN x hx fun h => hno ⟨r, _, hg, trivial, h⟩) ?_ ?_ ?_ ?_ ?_ (fun _ => by simp only [AVRel, AVsRel]; exact ⟨[], rfl, rfl⟩)
        · intro q hq
          exact hβ q (by have : hidN = 2000000 := rfl; have : ioN = 1000000 := rfl; omega)
        · rintro x ⟨q, g1, h1, h2, h3⟩
          rcases look q g1 h1 h2 with ⟨rfl, rfl⟩ | ⟨rfl, rfl⟩ | ⟨e1, e2, e3, h4⟩
          · rw [hβ _ (Ne.symm hd0)] at h3
            exact .inl ⟨_, _, hg0, trivial, h3⟩
          · rw [hβd] at h3
            exact (hbvB x h3).imp (fun h => ⟨r, _, hg, trivial, h⟩) id
          · rw [hβ _ e2] at h3
            exact .inl ⟨q, g1, h4, h2, h3⟩
        · intro q g1 h1
          have e2 : q ≠ d := fun h => by rw [h, hgd] at h1; cases h1
          by_cases e1 : q = 1000000
          · subst e1
            rw [hg0] at h1
            cases h1
            exact ⟨_, upd_same _ _ _, by simp [Shape, segSize, CV.size], fun _ => hβ _ e2⟩
          · by_cases e3 : q = r
            · subst e3
              exact ⟨.dead, by rw [upd_ne _ _ e1, upd_ne _ _ e2, upd_same], by cases g1 <;> trivial, fun h => h.elim⟩
            · exact ⟨g1, by rw [upd_ne _ _ e1, upd_ne _ _ e2, upd_ne _ _ e3]; exact h1, .refl g1, fun _ => hβ _ e2⟩
        · intro q g1 hq h1
          have e2 : q ≠ d := fun h => by omega
          by_cases e1 : q = 1000000
          · exact ⟨_, e1 ▸ hg0⟩
          · rw [upd_ne _ _ e1, upd_ne _ _ e2] at h1
            by_cases e3 : q = r
            · exact ⟨_, e3 ▸ hg⟩
            · rw [upd_ne _ _ e3] at h1; exact ⟨g1, h1⟩
        · intro M q g1 h1
          cases g1 with
          | dead => trivial
          | _ =>
            rcases look q _ h1 trivial with ⟨rfl, hg1⟩ | ⟨rfl, hg1⟩ | ⟨e1, e2, e3, h4⟩
            · rw [hg1, hβ _ (Ne.symm hd0)]
              obtain ⟨b', sh, pre, cs, post, TT, hbv', hps, hhp, hsp⟩ := a4.heap 1000000 _ hg0
              have hBb' : ¬ Blk (β r) b' := fun h => hr0 (a4.sep r 1000000 _ _ b' hg hg0 trivial trivial h (by rw [hbv']; exact Blk_part.2 rfl))
              refine ⟨b', sh, pre, cs, post, TT, hbv', hps, by rw [hkeepN b' (Array.getElem?_eq_some_iff.1 hhp).1 hBb']; exact hhp, ?_⟩
              have hone : ∀ {c : CV} {cs : List CV} {l : List Value}, one1 c = true → SegsRel st.heap β w (c :: cs) l → ∃ v r, l = v :: r ∧ v.oneCell' = true ∧ CVRel st.heap β w c v ∧ SegsRel st.heap β w cs r := by
                intro c cs l h H
                exact segs_one (by rintro k n f rfl; cases h) (by rintro n rfl; cases h) H
              have mk : ∀ {h2 : Heap} {β2 : Nat → Value} {w2 : World} {c : CV} {cs : List CV} {v : Value} {l : List Value}, one1 c = true → v.oneCell' = true → CVRel h2 β2 w2 c v → SegsRel h2 β2 w2 cs l → SegsRel h2 β2 w2 (c :: cs) (v :: l) := by
                intro h2 β2 w2 c cs v l ho h1 hv hl
                cases c <;> first | (cases ho; done) | (simp only [SegsRel]; exact ⟨v, l, rfl, h1, hv, hl⟩)
              obtain ⟨v0, r0, e0, o0, hv0, hs⟩ := hone hc0 hsp
              obtain ⟨v1, r1, e1, o1, hv1, hs⟩ := hone hc1 hs
              obtain ⟨v2, r2, e2, o2, hv2, hs⟩ := hone rfl hs
              simp only [SegsRel] at hs
              subst hs
              rw [e0, e1, e2]
              refine mk hc0 o0 (hv0.mono M) (mk hc1 o1 (hv1.mono M) (mk rfl o2 ?_ rfl))
              simp only [CVRel] at hv2 ⊢
              obtain ⟨g2, hg2, hp2⟩ := hv2
              rw [hg] at hg2
              cases hg2
              simp only [FullOk] at hp2
              have hfo : FullOk bv v2 (.deep e eb (xs.set i (spY y))) := ⟨by rw [hp2.1, hbv]; rfl, o2⟩
              exact ⟨.deep e eb (xs.set i (spY y)), by rw [upd_ne _ _ hd0, upd_same], by rw [hβd]; exact hfo⟩
            · rw [hg1, hβd]
              refine .inr ⟨B, cap', l1 ++ ([d0, d1, d2] ++ l3), tail, S1 ++ (T2 ++ S3), S1 ++ (T2 ++ S3), by simp [bv], ?_, hj, ?_, by simpa using hc, hm, hndN, (List.nodup_cons.1 hndN).2, fun _ h => h, hj.obj⟩
              · rw [hB']
                congr 2
                apply Array.toList_inj.1
                simp
              · simp only [List.length_append, List.length_cons, List.length_nil] at hl ⊢
                omega
            · rw [hβ _ e2]
              exact (a4.heap q _ h4).mono M fun x hx hl' => hkeepN x (OwnR.lt a4 ⟨q, _, h4, hl', hx⟩) fun h => e3 (a4.sep q r _ _ x h4 hg hl' trivial hx h)
        · intro q q' g1 g2 x h1 h2 p1 p2 e1 e2
          have cl : ∀ q g, q ≠ d → q ≠ r → st.heap q = some g → g.live → Blk (β q) x → Blk bv x → False := by
            intro q g k1 k2 k3 k4 k5 k6
            rcases hbvB x k6 with h | h
            · exact k2 (a4.sep q r _ _ x k3 hg k4 trivial k5 h)
            · have := OwnR.lt a4 ⟨q, g, k3, k4, k5⟩
              omega
          rcases look q g1 h1 p1 with ⟨rfl, rfl⟩ | ⟨rfl, rfl⟩ | ⟨j1, j2, j3, j4⟩ <;> rcases look q' g2 h2 p2 with ⟨rfl, rfl⟩ | ⟨rfl, rfl⟩ | ⟨i1, i2, i3, i4⟩
          · rfl
          · rw [hβ _ (Ne.symm hd0)] at e1
            rw [hβd] at e2
            exact (cl _ _ (Ne.symm hd0) (Ne.symm hr0) hg0 trivial e1 e2).elim
          · rw [hβ _ (Ne.symm hd0)] at e1
            rw [hβ _ i2] at e2
            exact a4.sep _ _ _ _ x hg0 i4 trivial p2 e1 e2
          · rw [hβd] at e1
            rw [hβ _ (Ne.symm hd0)] at e2
            exact (cl _ _ (Ne.symm hd0) (Ne.symm hr0) hg0 trivial e2 e1).elim
          · rfl
          · rw [hβd] at e1
            rw [hβ _ i2] at e2
            exact (cl _ _ i2 i3 i4 p2 e2 e1).elim
          · rw [hβ _ j2] at e1
            rw [hβ _ (Ne.symm hd0)] at e2
            exact a4.sep _ _ _ _ x j4 hg0 p1 trivial e1 e2
          · rw [hβ _ j2] at e1
            rw [hβd] at e2
            exact (cl _ _ j2 j3 j4 p1 e1 e2).elim
          · rw [hβ _ j2] at e1
            rw [hβ _ i2] at e2
            exact a4.sep _ _ _ _ x j4 i4 p1 p2 e1 e2
      · cases a6
    · cases a6
end
end Go.Abs
