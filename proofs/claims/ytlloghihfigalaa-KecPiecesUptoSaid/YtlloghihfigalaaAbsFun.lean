/- Functions: what is handed in, what comes out; from the equation of a body to a contract. -/
import Derived.Test.YtlloghihfigalaaAbsCut
import Derived.Conc.EntryLaws
import Derived.Conc.MuLone
set_option linter.unusedVariables false
set_option linter.unusedSimpArgs false
namespace Go.Abs
open Go.RowKit

theorem renCV_id (c : CV) : renCV id c = c := by cases c <;> rfl
theorem renSegs_id (cs : List CV) : cs.map (renCV id) = cs := by
  rw [show renCV id = id from funext renCV_id]; simp
theorem renAV_id {p : AS} (y : p.T) : renAV id (p.enc y) = p.enc y := by
  cases p with
  | c s => simp only [AS.enc, renAV, renCV_id]
  | agg ss => simp only [AS.enc, renAV, renSegs_id]

/-! ### Params -/
inductive PS where
  | val (s : AS)
  | ints (k : IntKind)
  | ptrs (k : IntKind) (n : Nat)
  | intsn (k : IntKind)

abbrev PS.T : PS → Type
  | .val s => s.T
  | .ints _ => List Int
  | .ptrs _ _ => List (Nat → Int)
  | .intsn _ => List Int × Nat

def PS.enc : (p : PS) → p.T → AV
  | .val s, x => s.enc x
  | .ints k, xs => .c (.fz (.int k) xs none)
  | .ptrs k n, xs => .c (.fz (.pt (.arr k n)) xs none)
  | .intsn k, x => .c (.fz (.int k) x.1 (some x.2))

/-- the arrays that these cells point to, and their regions -/
def ptrSegs (h : HeapT) (k : IntKind) (n : Nat) : List CV → Option (List (Nat → Int) × List Nat)
  | [] => some ([], [])
  | .ptr q base none room :: r => (match h q with
    | some (.cells (.ints k' m f :: _)) => bif Nat.beq base 0 && (k' == k) && Nat.beq m n && Nat.beq room n then (match ptrSegs h k n r with | some (l, qs) => some (f :: l, q :: qs) | none => none) else none
    | _ => none)
  | _ => none

def PS.dec (h : HeapT) : (p : PS) → AV → Option (p.T × List Nat)
  | .val s, a => (match s.dec id a with | some x => some (x, []) | none => none)
  | .ints k, a => (match a with
    | .c (.val v) => bif isNilS v then some ([], []) else none
    | a => (match sliceInts h a with | some (k', ys, rs) => bif k' == k then some (ys, rs) else none | none => none))
  | .ptrs k n, a => (match a with
    | .c (.asl r base lo m lim) => (match h r with
      | some (.cells segs) => bif Nat.beq base 0 && Nat.beq lo 0 && Nat.beq m lim && Nat.beq lim segs.length then (match ptrSegs h k n segs with | some (l, qs) => some (l, r :: qs) | none => none) else none
      | _ => none)
    | _ => none)
  | .intsn k, a => (match a with
    | .c (.sl r o m) => (match h r with
      | some (.row _ k' xs) => bif (k' == k) && Nat.beq o 0 then some ((xs, m), [r]) else none
      | _ => none)
    | _ => none)

abbrev psT : List PS → Type
  | [] => Unit
  | [p] => p.T
  | p :: q :: r => p.T × psT (q :: r)

def psEnc (i : Nat) : (ps : List PS) → psT ps → List (Nat × AV)
  | [], _ => []
  | [p], x => [(i, p.enc x)]
  | p :: q :: r, x => (i, p.enc x.1) :: psEnc (i + 1) (q :: r) x.2

def psDec (h : HeapT) : (ps : List PS) → List AV → Option (psT ps × List Nat)
  | [], [] => some ((), [])
  | [p], [a] => p.dec h a
  | p :: q :: r, a :: l => (match p.dec h a with
    | some (x, rs) => (match psDec h (q :: r) l with | some (y, rs') => some ((x, y), rs ++ rs') | none => none)
    | none => none)
  | _, _ => none

/-- no regions in it -/
def freeAS : AS → Bool
  | .c s => (match regsCS s with | [] => true | _ => false)
  | .agg ss => (match regsCSs ss with | [] => true | _ => false)
def freePS : PS → Bool
  | .val s => freeAS s
  | .ints _ => true
  | .ptrs _ _ => true
  | .intsn _ => true
def psFree : List PS → Bool
  | [] => true
  | p :: r => freePS p && psFree r

section
variable {P : Program} {w0 : World} {fp : Nat → Prop} {nt : Nat} {β : Nat → Value} {st : St} {a : Act} {w : World}

/-- What holds no region of the call's own, holds in a fresh call as well. -/
theorem CVRel.fresh {h h' : HeapT} {β' : Nat → Value} (H : ∀ b, ¬ Own h' β' b) {c : CV} {v : Value} (hr : regsCV c = []) (hc : CVRel h β w c v) : CVRel h' β' w c v := by
  cases c <;> simp only [regsCV] at hr <;> try (cases hr; done)
  all_goals simp only [CVRel] at hc ⊢ <;> try exact hc
  · exact hc.mono fun x v _ hv => ⟨hv, H _⟩
  · obtain ⟨a, h1, h2, h3⟩ := hc
    exact ⟨a, h1, h2.mono fun x v _ hv => ⟨hv, H _⟩, h3⟩

theorem SegsRel.fresh {h h' : HeapT} {β' : Nat → Value} (H : ∀ b, ¬ Own h' β' b) : ∀ {cs : List CV} {l : List Value}, regsSegs cs = [] → SegsRel h β w cs l → SegsRel h' β' w cs l := by
  intro cs
  induction cs with
  | nil => exact fun _ hc => hc
  | cons c cs ih =>
    intro l hr hc
    simp only [regsSegs, List.append_eq_nil_iff] at hr
    cases c <;> simp only [SegsRel] at hc ⊢
    case ints k n f => obtain ⟨r, hl, hc⟩ := hc; exact ⟨r, hl, ih hr.2 hc⟩
    case junk n => obtain ⟨a, r, hl, ha, h3, hc⟩ := hc; exact ⟨a, r, hl, ha, h3, ih hr.2 hc⟩
    all_goals (obtain ⟨v, r, hl, h3, hv, hc⟩ := hc; exact ⟨v, r, hl, h3, hv.fresh H hr.1, ih hr.2 hc⟩)

theorem AVRel.fresh {h h' : HeapT} {β' : Nat → Value} (H : ∀ b, ¬ Own h' β' b) {c : AV} {v : Value} (hn : NoTup c) (hr : regsAV c = []) (hc : AVRel h β w c v) : AVRel h' β' w c v := by
  cases c with
  | c x => simp only [AVRel] at hc ⊢; exact CVRel.fresh H hr hc
  | agg xs => simp only [AVRel] at hc ⊢; obtain ⟨l, hl, hs⟩ := hc; exact ⟨l, hl, SegsRel.fresh H hr hs⟩
  | tup => exact hn.elim

theorem freeAS_enc {s : AS} (h : freeAS s = true) (x : s.T) : NoTup (s.enc x) ∧ regsAV (s.enc x) = [] := by
  cases s with
  | c s =>
    simp only [freeAS] at h
    split at h
    · rename_i hr
      exact ⟨trivial, List.eq_nil_iff_forall_not_mem.2 fun r hm => by have := regsCS_enc r hm; rw [hr] at this; simp at this⟩
    · cases h
  | agg ss =>
    simp only [freeAS] at h
    split at h
    · rename_i hr
      exact ⟨trivial, List.eq_nil_iff_forall_not_mem.2 fun r hm => by have := regsSegs_enc r hm; rw [hr] at this; simp at this⟩
    · cases h

theorem sliceInts_cap (R : Rel P w0 fp nt β st a w) {x : AV} {u : Value} (hx : AVRel st.heap β w x u) {k : IntKind} {ys : List Int} {rs : List Nat} (e : sliceInts st.heap x = some (k, ys, rs)) {A : Option Addr} {n c : Nat} (hu : u = .slice A n c) :
    n ≤ c ∧ (A = none → c = 0) := by
  unfold sliceInts at e
  split at e
  · rename_i r
    simp only [AVRel, CVRel] at hx
    obtain ⟨g, hg, hp⟩ := hx
    rw [hg] at e
    cases g <;> simp only [] at e <;> try (cases e; done)
    obtain ⟨h1, _⟩ := hp
    rcases R.heap r _ hg with ⟨hn, rfl⟩ | ⟨b, cap, tail, hbv, hh, hc, hm⟩
    · rw [hu, hn] at h1; cases h1; exact ⟨Nat.le_refl _, fun _ => rfl⟩
    · rw [hu, hbv] at h1; cases h1; exact ⟨by omega, fun h => by cases h⟩
  · rename_i r p m
    simp only [AVRel, CVRel] at hx
    obtain ⟨g, hg, hp⟩ := hx
    rw [hg] at e
    cases g <;> simp only [] at e <;> try (cases e; done)
    rename_i e' k' xs
    obtain ⟨hlen, A', cap, A'', hbv, hv, hA⟩ := hp
    rw [hu] at hv
    cases hv
    rcases R.heap r _ hg with ⟨hn, rfl⟩ | ⟨b, cap', tail, hbv', hh, hc, hm⟩
    · rw [hbv] at hn; cases hn; simp at hlen; exact ⟨by omega, fun _ => by omega⟩
    · rw [hbv'] at hbv; cases hbv
      refine ⟨by omega, fun h => ?_⟩
      subst h
      rcases Nat.lt_or_ge p cap with h' | h'
      · have := hA h'; simp at this
      · omega
  · rename_i r base lo m lim
    simp only [AVRel, CVRel] at hx
    obtain ⟨g, hg, hp⟩ := hx
    rw [hg] at e
    cases g <;> simp only [] at e <;> try (cases e; done)
    obtain ⟨b, hbv, hlo, hlim, hv⟩ := hp
    rw [hu] at hv
    cases hv
    exact ⟨by omega, fun h => by cases h⟩
  · rename_i k' xs m
    simp only [AVRel, CVRel] at hx
    cases hx with
    | fz t xs n A' c' hn hc h0 hat => cases hu; exact ⟨by omega, fun h => (h0 h).2⟩
  · cases e

theorem ints_frozen (R : Rel P w0 fp nt β st a w) {x : AV} {u : Value} (hx : AVRel st.heap β w x u) {k : IntKind} {ys : List Int} {rs : List Nat} (e : sliceInts st.heap x = some (k, ys, rs)) {own : Nat → Prop} (ho : ∀ b, ¬ own b) :
    FzV w own (.fz (.int k) ys none) u := by
  obtain ⟨A, c, hu, hA, hcells⟩ := sliceInts_rel R hx e
  obtain ⟨h1, h2⟩ := sliceInts_cap R hx e hu
  subst hu
  refine .fz (.int k) ys none A c (Nat.le_refl _) h1 (fun h => ⟨hA h, h2 h⟩) ?_
  intro a' ha i hi
  have hsz : i * (DT.int k).size = i := Nat.mul_one i
  rw [hsz]
  refine .one _ [] _ _ (hcells a' ha i (.int k ys[i]) ?_) (ho _) (.int k _) (.nil _)
  simp only [intsV, List.getElem?_map]
  have hi' : i < List.length (α := Int) ys := hi
  rw [List.getElem?_eq_getElem hi']
  rfl

theorem ptrSegs_at (R : Rel P w0 fp nt β st a w) {own : Nat → Prop} (ho : ∀ b, ¬ own b) {k : IntKind} {n : Nat} : ∀ {segs : List CV} {l : List (Nat → Int)} {qs : List Nat} {vs : List Value}, ptrSegs st.heap k n segs = some (l, qs) → SegsRel st.heap β w segs vs →
    l.length = segs.length ∧ ∀ i (hi : i < l.length), ∃ v, vs[i]? = some v ∧ FzV w own (.fzp [.ints k n l[i]] none n) v := by
  intro segs
  induction segs with
  | nil => intro l qs vs e _; cases e; exact ⟨rfl, fun i hi => absurd hi (Nat.not_lt_zero _)⟩
  | cons c cs ih =>
    intro l qs vs e hs
    cases c <;> first | (cases e; done) | skip
    case ptr q base o room =>
      cases o with
      | some p => cases e
      | none =>
        simp only [ptrSegs] at e
        split at e
        · rename_i k' m f rest hq
          obtain ⟨h1, e2⟩ := cond_some e
          clear e
          have e := e2
          clear e2
          simp only [Bool.and_eq_true] at h1
          obtain ⟨⟨⟨h1, h2⟩, h3⟩, h4⟩ := h1
          obtain rfl := nbeq.1 h1
          obtain rfl := beqK.1 h2
          obtain rfl := nbeq.1 h3
          obtain rfl := nbeq.1 h4
          split at e
          · rename_i l' qs' hl
            cases e
            simp only [SegsRel] at hs
            obtain ⟨v, r, rfl, _, hv, hr⟩ := hs
            obtain ⟨g1, g2⟩ := ih hl hr
            refine ⟨by simp [g1], fun i hi => ?_⟩
            cases i with
            | succ i =>
              obtain ⟨v', g3, g4⟩ := g2 i (by simpa using hi)
              exact ⟨v', by simpa using g3, by simpa using g4⟩
            | zero =>
              refine ⟨v, rfl, ?_⟩
              simp only [CVRel] at hv
              obtain ⟨g, hg, hp⟩ := hv
              rw [hq] at hg
              cases hg
              obtain ⟨b, hbv, rfl, _, _⟩ := hp
              obtain ⟨b', T', cs', hbv', hw, hss⟩ := R.heap q _ hq
              rw [hbv] at hbv'
              cases hbv'
              simp only [SegsRel] at hss
              obtain ⟨r', hl', _⟩ := hss
              refine .pt _ _ _ ?_ (by simp [segSize, CV.size])
              refine .ints _ _ _ _ _ (fun j hj => ?_) (fun _ => ho _) (.nil _)
              refine win_block hw j _ ?_
              rw [hl', List.getElem?_append_left (by simpa using hj), fnV_get _ _ _ _ hj]
              rfl
          · cases e
        · cases e

theorem ptrSegs_dep {h h' : HeapT} {k : IntKind} {n : Nat} : ∀ {segs : List CV} {l : List (Nat → Int)} {qs : List Nat}, ptrSegs h k n segs = some (l, qs) → (∀ q ∈ qs, h' q = h q) → ptrSegs h' k n segs = some (l, qs) := by
  intro segs
  induction segs with
  | nil => intro l qs e _; exact e
  | cons c cs ih =>
    intro l qs e H
    cases c <;> first | (cases e; done) | skip
    case ptr q base o room =>
      cases o with
      | some p => cases e
      | none =>
        simp only [ptrSegs] at e ⊢
        split at e
        · rename_i k' m f rest hq
          obtain ⟨h1, e2⟩ := cond_some e
          clear e
          have e := e2
          clear e2
          split at e
          · rename_i l' qs' hl
            cases e
            rw [H q (by simp), hq]
            simp only [h1, cond_true]
            rw [ih hl fun q hq => H q (by simp [hq])]
          · cases e
        · cases e

theorem intsn_frozen (R : Rel P w0 fp nt β st a w) {r m : Nat} {u : Value} (hx : AVRel st.heap β w (.c (.sl r 0 m)) u) {e : TypeId} {k : IntKind} {xs : List Int} (hr : st.heap r = some (.row e k xs)) {own : Nat → Prop} (ho : ∀ b, blkOf (β r) = some b → ¬ own b) :
    FzV w own (.fz (.int k) xs (some m)) u := by
  simp only [AVRel, CVRel] at hx
  obtain ⟨g, hg, hp⟩ := hx
  rw [hr] at hg
  cases hg
  obtain ⟨hlen, A, cap, A', hbv, rfl, hA⟩ := hp
  rcases R.heap r _ hr with ⟨hn, rfl⟩ | ⟨b, cap', tail, hbv', hh, hc, hm⟩
  · rw [hbv] at hn
    cases hn
    exact .fz (.int k) [] (some m) A' (0 - 0) (by show m ≤ 0; simpa using hlen) (Nat.le_refl _) (fun _ => ⟨rfl, rfl⟩) (fun a ha i hi => absurd hi (Nat.not_lt_zero _))
  · rw [hbv'] at hbv
    cases hbv
    have hcap : xs.length ≤ cap - 0 := by omega
    refine .fz (.int k) xs (some m) A' (cap - 0) (by show m ≤ xs.length; omega) hcap ?_ ?_
    · intro h
      rcases Nat.eq_zero_or_pos cap with h0 | h0
      · exact ⟨List.eq_nil_of_length_eq_zero (l := xs) (by omega), by omega⟩
      · rw [hA h0] at h; cases h
    · intro a' ha i hi
      have hi' : i < xs.length := hi
      rw [hA (by omega)] at ha
      have ha' : a' = ⟨b, 0, none⟩ := by
        simp only [Option.map_some, Option.some.injEq] at ha
        rw [← ha]; rfl
      subst ha'
      have hsz : i * (DT.int k).size = i := Nat.mul_one i
      rw [hsz]
      refine .one _ [] _ (.int k xs[i]) ?_ ?_ (.int k _) (.nil _)
      · refine win_block hh i _ ?_
        rw [List.getElem?_append_left (by simpa using hi')]
        simp only [intsV, List.getElem?_map]
        rw [List.getElem?_eq_getElem hi']
        rfl
      · have : ((⟨b, 0, none⟩ : Addr).add i).block = b := by unfold Addr.add; split <;> rfl
        rw [this]
        exact ho b (by rw [hbv']; rfl)

theorem intsn_inv {h : HeapT} {k : IntKind} {x : AV} {y : List Int × Nat} {rs : List Nat} (e : (PS.intsn k).dec h x = some (y, rs)) : ∃ r e', x = .c (.sl r 0 y.2) ∧ h r = some (.row e' k y.1) ∧ rs = [r] := by
  simp only [PS.dec] at e
  split at e
  · rename_i r o m
    split at e
    · rename_i e' k' xs hr
      obtain ⟨h1, h2⟩ := cond_some e
      simp only [Bool.and_eq_true] at h1
      obtain rfl := beqK.1 h1.1
      obtain rfl := nbeq.1 h1.2
      cases h2
      exact ⟨r, e', rfl, hr, rfl⟩
    · cases e
  · cases e

theorem PS.dec_rel (R : Rel P w0 fp nt β st a w) {p : PS} (hp : freePS p = true) {x : AV} {u : Value} (hx : AVRel st.heap β w x u) {y : p.T} {rs : List Nat} (e : p.dec st.heap x = some (y, rs)) {h' : HeapT} {β' : Nat → Value} (H : ∀ b, ¬ Own h' β' b) :
    AVRel h' β' w (p.enc y) u := by
  cases p with
  | val s =>
    simp only [PS.dec] at e
    split at e
    · rename_i z hz
      cases e
      obtain ⟨h1, h2⟩ := freeAS_enc hp y
      simp only [PS.enc]
      refine AVRel.fresh H h1 h2 (h := st.heap) (β := β) ?_
      rw [← renAV_id (p := s) y, AS.dec_enc hz]
      exact hx
    · cases e
  | ints k =>
    simp only [PS.dec] at e
    split at e
    · rename_i v
      obtain ⟨h1, h2⟩ := cond_some e
      cases h2
      obtain rfl := isNilS_spec h1
      simp only [AVRel, CVRel] at hx
      subst hx
      simp only [PS.enc, AVRel, CVRel]
      exact .fz (.int k) [] none none 0 (Nat.le_refl _) (Nat.le_refl _) (fun _ => ⟨rfl, rfl⟩) (fun a h => by cases h)
    · split at e
      · rename_i k' ys rs' hs
        obtain ⟨h1, h2⟩ := cond_some e
        obtain rfl := beqK.1 h1
        cases h2
        simp only [PS.enc, AVRel, CVRel]
        exact ints_frozen R hx hs H
      · cases e
  | ptrs k n =>
    simp only [PS.dec] at e
    split at e
    · rename_i r base lo m lim
      split at e
      · rename_i segs hr
        obtain ⟨h1, e2⟩ := cond_some e
        clear e
        have e := e2
        clear e2
        simp only [Bool.and_eq_true] at h1
        obtain ⟨⟨⟨h1, h2⟩, h3⟩, h4⟩ := h1
        obtain rfl := nbeq.1 h1
        obtain rfl := nbeq.1 h2
        obtain rfl := nbeq.1 h3
        have h4 := nbeq.1 h4
        split at e
        · rename_i l qs hl
          cases e
          simp only [AVRel, CVRel] at hx
          obtain ⟨g, hg, hp⟩ := hx
          rw [hr] at hg
          cases hg
          obtain ⟨b, hbv, _, _, hu⟩ := hp
          obtain ⟨b', T', cs', hbv', hw, hss⟩ := R.heap r _ hr
          rw [hbv] at hbv'
          cases hbv'
          have hu' : u = .slice (some ⟨b, 0, none⟩) m m := by rw [hu]; split <;> simp
          obtain ⟨g1, g2⟩ := ptrSegs_at R H hl hss
          have hlen : y.length = m := by rw [g1, h4]
          simp only [PS.enc, AVRel, CVRel]
          have key := FzV.fz (w := w) (own := Own h' β') (.pt (.arr k n)) y none (some ⟨b, 0, none⟩) m (Nat.le_refl _) (by show y.length ≤ m; omega) (fun h => by cases h) (by
            intro a' ha i hi
            cases ha
            obtain ⟨v, g3, g4⟩ := g2 i hi
            refine .one _ [] _ v ?_ (H _) g4 (.nil _)
            exact win_block hw (i * 1) v (by rw [Nat.mul_one]; exact g3))
          have hlo : lenOfFz (α := (DT.pt (.arr k n)).T) y none = m := hlen
          rw [hlo] at key
          rw [hu']
          exact key
        · cases e
      · cases e
    · cases e
  | intsn k =>
    obtain ⟨r, e', rfl, hr, rfl⟩ := intsn_inv e
    simp only [PS.enc, AVRel, CVRel]
    exact intsn_frozen R hx hr fun b _ => H b

theorem psDec_rel (R : Rel P w0 fp nt β st a w) {h' : HeapT} {β' : Nat → Value} (H : ∀ b, ¬ Own h' β' b) : ∀ {ps : List PS} {i : Nat} {l : List AV} {us : List Value} {x : psT ps} {rs : List Nat}, psFree ps = true → AVsRel st.heap β w l us → psDec st.heap ps l = some (x, rs) →
    us.length = ps.length ∧ ∀ t av, (t, av) ∈ psEnc i ps x → ∃ j u, t = i + j ∧ us[j]? = some u ∧ AVRel h' β' w av u := by
  intro ps
  induction ps with
  | nil =>
    intro i l us x rs hf hl e
    cases l with
    | nil => simp only [AVsRel] at hl; subst hl; exact ⟨rfl, fun t av h => by simp [psEnc] at h⟩
    | cons => cases e
  | cons p r ih =>
    intro i l us x rs hf hl e
    simp only [psFree, Bool.and_eq_true] at hf
    cases r with
    | nil =>
      match l, e with
      | [y], e =>
        simp only [psDec] at e
        simp only [AVsRel] at hl
        obtain ⟨u, r', rfl, hu, rfl⟩ := hl
        refine ⟨rfl, fun t av h => ?_⟩
        simp only [psEnc, List.mem_singleton] at h
        cases h
        exact ⟨0, u, by omega, by simp, PS.dec_rel R hf.1 hu e H⟩
    | cons q r =>
      match l, e with
      | y :: l, e =>
        simp only [psDec] at e
        simp only [AVsRel] at hl
        obtain ⟨u, us', rfl, hu, hl⟩ := hl
        split at e
        · rename_i z rs1 hz
          split at e
          · rename_i zs rs2 hzs
            cases e
            obtain ⟨h1, h2⟩ := ih (i := i + 1) hf.2 hl hzs
            refine ⟨by simp at h1 ⊢; omega, fun t av h => ?_⟩
            simp only [psEnc, List.mem_cons] at h
            rcases h with h | h
            · cases h
              exact ⟨0, u, by omega, by simp, PS.dec_rel R hf.1 hu hz H⟩
            · obtain ⟨j, v, h3, h4, h5⟩ := h2 t av h
              exact ⟨j + 1, v, by omega, by simpa using h4, h5⟩
          · cases e
        · cases e

theorem PS.dec_dep {p : PS} {h h' : HeapT} {x : AV} {y : p.T} {rs : List Nat} (e : p.dec h x = some (y, rs)) (H : Same h h' rs) : p.dec h' x = some (y, rs) := by
  cases p with
  | val s => exact e
  | ints k =>
    simp only [PS.dec] at e ⊢
    split at e
    · exact e
    · split at e
      · rename_i k' ys rs' hs
        obtain ⟨h1, h2⟩ := cond_some e
        cases h2
        rw [sliceInts_congr (fun r hr => H r (by rw [sliceInts_in hs]; exact hr)), hs]
        simp only [h1, cond_true]
      · cases e
  | ptrs k n =>
    simp only [PS.dec] at e ⊢
    split at e
    · rename_i r base lo m lim
      split at e
      · rename_i segs hr
        obtain ⟨h1, e2⟩ := cond_some e
        clear e
        have e := e2
        clear e2
        split at e
        · rename_i l qs hl
          cases e
          rw [H r (by simp), hr]
          simp only [h1, cond_true]
          rw [ptrSegs_dep hl fun q hq => H q (by simp [hq])]
        · cases e
      · cases e
    · cases e
  | intsn k =>
    obtain ⟨r, e', rfl, hr, rfl⟩ := intsn_inv e
    simp only [PS.dec]
    rw [H r (by simp), hr]
    have h1 : (k == k) = true := beqK.2 rfl
    simp [h1]

theorem psDec_dep {h h' : HeapT} : ∀ {ps : List PS} {l : List AV} {x : psT ps} {rs : List Nat}, psDec h ps l = some (x, rs) → Same h h' rs → psDec h' ps l = some (x, rs) := by
  intro ps
  induction ps with
  | nil => intro l x rs e _; cases l <;> exact e
  | cons p r ih =>
    intro l x rs e H
    cases r with
    | nil =>
      match l, e with
      | [y], e => exact PS.dec_dep e H
    | cons q r =>
      match l, e with
      | y :: l, e =>
        simp only [psDec] at e ⊢
        split at e
        · rename_i z rs1 hz
          split at e
          · rename_i zs rs2 hzs
            cases e
            rw [PS.dec_dep hz (fun r hr => H r (by simp [hr]))]
            simp only
            rw [ih hzs (fun r hr => H r (by simp [hr]))]
          · cases e
        · cases e
end

/-! ### Results -/
inductive RSh where
  | val (s : AS)
  | row (e : Nat) (k : IntKind)

abbrev RSh.T : RSh → Type
  | .val s => s.T
  | .row _ _ => List Int

def RSh.enc (d : Nat) : (p : RSh) → p.T → AV
  | .val s, x => s.enc x
  | .row _ _, _ => .c (.full d)
def RSh.regs (d : Nat) : (p : RSh) → p.T → List (Nat × Reg)
  | .val _, _ => []
  | .row e k, xs => [(d, .row e k xs)]

/-- what a result comes to, and the region that it is (if any) -/
def RSh.dec (h : HeapT) : (p : RSh) → AV → Option (p.T × List Nat)
  | .val s, a => (match s.dec id a with | some x => some (x, []) | none => none)
  | .row e k, a => (match a with
    | .c (.val v) => bif isNilS v then some ([], []) else none
    | .c (.full r) => (match h r with
      | some (.row e' k' xs) => bif Nat.beq e e' && k == k' then some (xs, [r]) else none
      | _ => none)
    | _ => none)

abbrev rsT : List RSh → Type
  | [] => Unit
  | [p] => p.T
  | p :: q :: r => p.T × rsT (q :: r)

def rsEnc (d : Nat) : (ps : List RSh) → rsT ps → List AV
  | [], _ => []
  | [p], x => [p.enc d x]
  | p :: q :: r, x => p.enc d x.1 :: rsEnc d (q :: r) x.2
def rsRegs (d : Nat) : (ps : List RSh) → rsT ps → List (Nat × Reg)
  | [], _ => []
  | [p], x => p.regs d x
  | p :: q :: r, x => p.regs d x.1 ++ rsRegs d (q :: r) x.2
def rsDec (h : HeapT) : (ps : List RSh) → List AV → Option (rsT ps)
  | [], [] => some ()
  | [p], [a] => (match p.dec h a with | some (x, _) => some x | none => none)
  | p :: q :: r, a :: l => (match p.dec h a with
    | some (x, _) => (match rsDec h (q :: r) l with | some y => some (x, y) | none => none)
    | none => none)
  | _, _ => none

def freeSc : CS → Bool
  | .int _ => true
  | .bool => true
  | .str => true
  | .ints _ _ => true
  | .nilp => true
  | .nils => true
  | _ => false
def freeSCs : List CS → Bool
  | [] => true
  | c :: r => freeSc c && freeSCs r
def freeR : RSh → Bool
  | .val (.c s) => freeSc s
  | .val (.agg ss) => freeSCs ss
  | .row _ _ => true
def isRow : RSh → Bool
  | .row _ _ => true
  | _ => false
def rowsIn : List RSh → Nat
  | [] => 0
  | p :: r => (bif isRow p then 1 else 0) + rowsIn r
def rsFree : List RSh → Bool
  | [] => true
  | p :: r => freeR p && rsFree r

def resAVs (T : Tab) (st : St) : List ResultVar → Option (List AV)
  | [] => some []
  | .tmp t :: r => (match st.env t with
    | some a => (match resAVs T st r with | some l => some (a :: l) | none => none)
    | none => none)
  | .cell t ty :: r => (match st.env t, T.get ty with
    | some (.c x), some ti => (match loadAt ti st.heap x with
      | some δ => (match resAVs T st r with | some l => some (δ.av :: l) | none => none)
      | none => none)
    | _, _ => none)

structure FSh where
  ps : List PS
  rs : List RSh
  res : List ResultVar

def fin (T : Tab) (S : FSh) (e : AExit) (st : St) : Option (rsT S.rs) :=
  match e with
  | .exit _ => none
  | _ => (match resAVs T st S.res with | some l => rsDec st.heap S.rs l | none => none)

def argSt (S : FSh) (x : psT S.ps) : St := { env := ofL (psEnc 0 S.ps x), heap := fun _ => none }

def resAV : List AV → AV
  | [a] => a
  | l => .tup l

/-- the contract of a function: its result in the caller's state -/
def funEnt (S : FSh) (f : psT S.ps → Option (rsT S.rs)) : Ent :=
  ⟨fun d l h k => match h d, psDec h S.ps l with
    | none, some (x, rs) => (f x).bind fun y => k ⟨resAV (rsEnc d S.rs y), rsRegs d S.rs y, d :: rs⟩
    | _, _ => none⟩

section
variable {P : Program} {w0 : World} {fp : Nat → Prop} {nt : Nat} {β : Nat → Value} {st : St} {a : Act} {w : World}

theorem asAddr_of_load {t : Nat} {x v : Value} (h : (Instr.loadAt t x).run P w = .ok v w) : (do loadVar t (← asAddr x) : Sem Value).run P w = .ok v w := by
  unfold Instr.loadAt at h
  cases x with
  | pointer p =>
    cases p with
    | some A => simpa [Instr.sureAddr, asAddr] using h
    | none => simp [Instr.sureAddr, stuck] at h
  | _ => simp [Instr.sureAddr, stuck] at h

def resV : List Value → Value
  | [v] => v
  | vs => .tuple vs.toArray

def resOne (a : Act) : ResultVar → Sem Value
  | .tmp t => pure (a.tmps.getD t undef)
  | .cell c t => do loadVar t (← asAddr (a.tmps.getD c undef))

theorem run_results (C : Ctx P) (R : Rel P w0 fp nt β st a w) {fn : Func} {l : List AV} (e : resAVs C.T st fn.results.toList = some l) :
    ∃ vs : List Value, (results fn a.tmps).run P w = .ok (resV vs) w ∧ AVsRel st.heap β w l vs := by
  have key : ∀ (rs : List ResultVar) (l : List AV), resAVs C.T st rs = some l → ∃ vs : List Value, (rs.mapM (resOne a)).run P w = .ok vs w ∧ AVsRel st.heap β w l vs := by
    intro rs
    induction rs with
    | nil => intro l e; cases e; exact ⟨[], by simp, by simp only [AVsRel]⟩
    | cons r rs ih =>
      intro l e
      cases r with
      | tmp t =>
        simp only [resAVs] at e
        split at e
        · rename_i av ht
          split at e
          · rename_i l' hl
            cases e
            obtain ⟨vs, h1, h2⟩ := ih l' hl
            refine ⟨a.tmps.getD t undef :: vs, ?_, by simp only [AVsRel]; exact ⟨_, _, rfl, R.env t av ht, h2⟩⟩
            rw [List.mapM_cons]
            simp only [Sem.run_bind, resOne, Sem.run_pure, Result.andThen_ok, h1]
          · cases e
        · cases e
      | cell t ty =>
        simp only [resAVs] at e
        split at e
        · rename_i x ti ht hti
          split at e
          · rename_i δ hδ
            split at e
            · rename_i l' hl
              cases e
              obtain ⟨vs, h1, h2⟩ := ih l' hl
              have hx := R.env t _ ht
              simp only [AVRel] at hx
              obtain ⟨_, v, h3, h4⟩ := loadAt_rel R (C.hT _ _ hti) hx hδ
              refine ⟨v :: vs, ?_, by simp only [AVsRel]; exact ⟨_, _, rfl, h4, h2⟩⟩
              rw [List.mapM_cons]
              have h5 : (resOne a (.cell t ty)).run P w = .ok v w := asAddr_of_load h3
              simp only [Sem.run_bind, h5, Sem.run_pure, Result.andThen_ok, h1]
            · cases e
          · cases e
        · cases e
  obtain ⟨vs, h1, h2⟩ := key _ _ e
  refine ⟨vs, ?_, h2⟩
  unfold results
  have h3 : (fn.results.mapM (resOne a)).run P w = .ok vs.toArray w := by
    cases hr : fn.results with
    | mk rl =>
      rw [hr] at h1
      rw [List.mapM_toArray, Sem.run_map, h1]
      rfl
  have h4 : (results fn a.tmps).run P w = ((fn.results.mapM (resOne a)) >>= fun vs => (pure (if h : vs.size = 1 then vs[0] else .tuple vs) : Sem Value)).run P w := rfl
  unfold results at h4
  rw [h4, Sem.run_bind, h3]
  simp only [Result.andThen_ok, Sem.run_pure]
  congr 1
  match vs with
  | [] => rfl
  | [v] => rfl
  | v :: u :: r => simp [resV]

theorem CVRel.const {s : CS} (hs : freeSc s = true) {x : s.T} {v : Value} {h : HeapT} (H : CVRel h β w (s.enc x) v) (h' : HeapT) (β' : Nat → Value) (w' : World) : CVRel h' β' w' (s.enc x) v := by
  cases s <;> simp only [freeSc] at hs <;> try (cases hs; done)
  all_goals (simp only [CS.enc, CVRel] at H ⊢; try exact H)

theorem SegsRel.const : ∀ {ss : List CS} {x : segsT ss} {l : List Value} {h : HeapT}, freeSCs ss = true → SegsRel h β w (segsEnc ss x) l → ∀ (h' : HeapT) (β' : Nat → Value) (w' : World), SegsRel h' β' w' (segsEnc ss x) l := by
  have step : ∀ {c : CS} {x : c.T} {cs cs' : List CV} {h : HeapT} {l : List Value}, freeSc c = true → (∀ {l}, SegsRel h β w cs l → ∀ (h' : HeapT) (β' : Nat → Value) (w' : World), SegsRel h' β' w' cs l) → SegsRel h β w (c.enc x :: cs) l →
      ∀ (h' : HeapT) (β' : Nat → Value) (w' : World), SegsRel h' β' w' (c.enc x :: cs) l := by
    intro c x cs cs' h l hc ih H h' β' w'
    cases c <;> simp only [freeSc] at hc <;> try (cases hc; done)
    case ints k n => simp only [CS.enc, SegsRel] at H ⊢; obtain ⟨r, hl, hr⟩ := H; exact ⟨r, hl, ih hr h' β' w'⟩
    all_goals (simp only [CS.enc, SegsRel, CVRel] at H ⊢; obtain ⟨v, r, hl, h1, hv, hr⟩ := H; exact ⟨v, r, hl, h1, hv, ih hr h' β' w'⟩)
  intro ss
  induction ss with
  | nil => intro x l h _ H h' β' w'; simpa only [segsEnc, SegsRel] using H
  | cons c r ih =>
    intro x l h hs H h' β' w'
    simp only [freeSCs, Bool.and_eq_true] at hs
    cases r with
    | nil => exact step (cs' := []) hs.1 (fun H h' β' w' => by simpa only [SegsRel] using H) H h' β' w'
    | cons d r => exact step (cs' := []) hs.1 (fun H h' β' w' => ih hs.2 H h' β' w') H h' β' w'

theorem AVRel.const {s : AS} (hs : freeR (.val s) = true) {x : s.T} {v : Value} {h : HeapT} (H : AVRel h β w (s.enc x) v) (h' : HeapT) (β' : Nat → Value) (w' : World) : AVRel h' β' w' (s.enc x) v := by
  cases s with
  | c s => simp only [AS.enc, AVRel] at H ⊢; exact CVRel.const hs H h' β' w'
  | agg ss => simp only [AS.enc, AVRel] at H ⊢; obtain ⟨l, hl, hr⟩ := H; exact ⟨l, hl, SegsRel.const hs hr h' β' w'⟩

theorem RSh.dec_rel {w' : World} (R : Rel P w (fun _ => False) nt β st a w') {p : RSh} (hp : freeR p = true) {x : AV} {v : Value} (hx : AVRel st.heap β w' x v) {y : p.T} {rs : List Nat} (e : p.dec st.heap x = some (y, rs)) (d : Nat) :
    (isRow p = false ∧ p.regs d y = [] ∧ ∀ h' β', AVRel h' β' w' (p.enc d y) v) ∨
    (isRow p = true ∧ ∃ ee k xs, p.regs d y = [(d, .row ee k xs)] ∧ (∀ h' β', RegRel h' β' w' v (.row ee k xs)) ∧ (∀ b, blkOf v = some b → w.heap.size ≤ b) ∧ ∀ (h' : HeapT) β', h' d = some (.row ee k xs) → β' d = v → AVRel h' β' w' (p.enc d y) v) := by
  cases p with
  | val s =>
    left
    simp only [RSh.dec] at e
    split at e
    · rename_i z hz
      cases e
      refine ⟨rfl, rfl, fun h' β' => ?_⟩
      simp only [RSh.enc]
      refine AVRel.const hp (h := st.heap) (β := β) (w := w') ?_ h' β' w'
      rw [← renAV_id (p := s) y, AS.dec_enc hz]; exact hx
    · cases e
  | row ee k =>
    right
    simp only [RSh.dec] at e
    refine ⟨rfl, ee, k, y, rfl, ?_⟩
    split at e
    · rename_i u
      obtain ⟨h1, h2⟩ := cond_some e
      cases h2
      obtain rfl := isNilS_spec h1
      simp only [AVRel, CVRel] at hx
      subst hx
      refine ⟨fun h' β' => .inl ⟨rfl, rfl⟩, fun b hb => by simp [blkOf] at hb, fun h' β' h3 h4 => ?_⟩
      simp only [RSh.enc, AVRel, CVRel]
      exact ⟨_, h3, h4.symm, rfl⟩
    · rename_i r
      split at e
      · rename_i e' k' xs hr
        obtain ⟨h1, h2⟩ := cond_some e
        simp only [Bool.and_eq_true] at h1
        obtain rfl := nbeq.1 h1.1
        obtain rfl := beqK.1 h1.2
        cases h2
        simp only [AVRel, CVRel] at hx
        obtain ⟨g, hg, hf⟩ := hx
        rw [hr] at hg
        cases hg
        obtain ⟨rfl, h5⟩ := hf
        have hR := R.heap r _ hr
        refine ⟨fun h' β' => hR, fun b hb => ?_, fun h' β' h3 h4 => ?_⟩
        · rcases R.lo b ⟨r, _, hr, trivial, hb⟩ with h | h
          · exact h
          · exact h.elim
        · simp only [RSh.enc, AVRel, CVRel]
          exact ⟨_, h3, h4.symm, h5⟩
      · cases e
    · cases e

theorem rsDec_rel {w' : World} (R : Rel P w (fun _ => False) nt β st a w') (d : Nat) : ∀ {ps : List RSh} {l : List AV} {vs : List Value} {y : rsT ps}, rsFree ps = true → rowsIn ps ≤ 1 → AVsRel st.heap β w' l vs → rsDec st.heap ps l = some y →
    (rsRegs d ps y = [] ∧ ∀ h' β', AVsRel h' β' w' (rsEnc d ps y) vs) ∨
    (∃ bv ee k xs, rsRegs d ps y = [(d, .row ee k xs)] ∧ (∀ h' β', RegRel h' β' w' bv (.row ee k xs)) ∧ (∀ b, blkOf bv = some b → w.heap.size ≤ b) ∧ ∀ (h' : HeapT) β', h' d = some (.row ee k xs) → β' d = bv → AVsRel h' β' w' (rsEnc d ps y) vs) := by
  intro ps
  induction ps with
  | nil =>
    intro l vs y _ _ hl e
    cases l with
    | nil => exact .inl ⟨rfl, fun h' β' => by simpa only [rsEnc, AVsRel] using hl⟩
    | cons => cases e
  | cons p r ih =>
    intro l vs y hf hn hl e
    simp only [rsFree, Bool.and_eq_true] at hf
    cases r with
    | nil =>
      match l, e with
      | [x], e =>
        simp only [rsDec] at e
        simp only [AVsRel] at hl
        obtain ⟨v, r', rfl, hv, rfl⟩ := hl
        split at e
        · rename_i z rs hz
          cases e
          rcases RSh.dec_rel R hf.1 hv hz d with ⟨_, h1, h2⟩ | ⟨_, ee, k, xs, h1, h2, h3, h4⟩
          · exact .inl ⟨h1, fun h' β' => by simp only [rsEnc, AVsRel]; exact ⟨v, [], rfl, h2 h' β', rfl⟩⟩
          · exact .inr ⟨v, ee, k, xs, h1, h2, h3, fun h' β' h5 h6 => by simp only [rsEnc, AVsRel]; exact ⟨v, [], rfl, h4 h' β' h5 h6, rfl⟩⟩
        · cases e
    | cons q r =>
      match l, e with
      | x :: l, e =>
        simp only [rsDec] at e
        simp only [AVsRel] at hl
        obtain ⟨v, vs', rfl, hv, hl⟩ := hl
        split at e
        · rename_i z rs hz
          split at e
          · rename_i zs hzs
            cases e
            simp only [rowsIn] at hn
            rcases RSh.dec_rel R hf.1 hv hz d with ⟨h0, h1, h2⟩ | ⟨h0, ee, k, xs, h1, h2, h3, h4⟩
            · rw [h0] at hn
              have hn' : rowsIn (q :: r) ≤ 1 := by simpa [rowsIn] using hn
              rcases ih hf.2 hn' hl hzs with ⟨h5, h6⟩ | ⟨bv, ee, k, xs, h5, h6, h7, h8⟩
              · exact .inl ⟨by simp only [rsRegs, h1, h5, List.append_nil], fun h' β' => by simp only [rsEnc, AVsRel]; exact ⟨v, vs', rfl, h2 h' β', h6 h' β'⟩⟩
              · exact .inr ⟨bv, ee, k, xs, by simp only [rsRegs, h1, h5, List.nil_append], h6, h7, fun h' β' h9 h10 => by simp only [rsEnc, AVsRel]; exact ⟨v, vs', rfl, h2 h' β', h8 h' β' h9 h10⟩⟩
            · rw [h0] at hn
              have hn' : rowsIn (q :: r) = 0 := by simp [rowsIn] at hn ⊢; omega
              rcases ih hf.2 (by omega) hl hzs with ⟨h5, h6⟩ | ⟨bv, ee', k', xs', h5, h6, h7, h8⟩
              · exact .inr ⟨v, ee, k, xs, by simp only [rsRegs, h1, h5, List.append_nil], h2, h3, fun h' β' h9 h10 => by simp only [rsEnc, AVsRel]; exact ⟨v, vs', rfl, h4 h' β' h9 h10, h6 h' β'⟩⟩
              · exfalso
                have : ∀ (ps : List RSh) (y : rsT ps), rowsIn ps = 0 → rsRegs d ps y = [] := by
                  intro ps
                  induction ps with
                  | nil => intro _ _; rfl
                  | cons p r ih =>
                    intro y h
                    simp only [rowsIn] at h
                    have hp : isRow p = false := by cases hp : isRow p <;> simp [hp] at h; rfl
                    have hpr : ∀ y : p.T, p.regs d y = [] := by cases p <;> simp [isRow] at hp; intro y; rfl
                    cases r with
                    | nil => exact hpr y
                    | cons q r => simp only [rsRegs]; rw [hpr, ih _ (by omega)]; rfl
                rw [this _ _ hn'] at h5
                cases h5
          · cases e
        · cases e
end
end Go.Abs
