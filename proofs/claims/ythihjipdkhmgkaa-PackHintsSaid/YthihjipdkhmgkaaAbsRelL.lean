/- What the abstract interpreter's states say of the machine's: values, regions, frozen data, the frame; and how that is kept when the world turns. -/
import Derived.Test.YthihjipdkhmgkaaAbsCoreL
import Derived.WalkKit
namespace Go.Abs
open Go.RowKit

def blkOf : Value → Option Nat
  | .pointer (some a) => some a.block
  | .slice (some a) _ _ => some a.block
  | .map (some b) => some b
  | _ => none

def intsV (k : IntKind) (xs : List Int) : List Value := xs.map (.int k)
def fnV (k : IntKind) (n : Nat) (f : Nat → Int) : List Value := (List.range n).map fun i => .int k (f i)

@[simp] theorem fnV_length (k : IntKind) (n : Nat) (f : Nat → Int) : (fnV k n f).length = n := by simp [fnV]
@[simp] theorem intsV_length (k : IntKind) (xs : List Int) : (intsV k xs).length = xs.length := by simp [intsV]
theorem fnV_get (k : IntKind) (n : Nat) (f : Nat → Int) (i : Nat) (h : i < n) : (fnV k n f)[i]? = some (.int k (f i)) := by simp [fnV, h]

section
variable (w : World) (own : Nat → Prop)

/-- Frozen data: cells that hold this from a on, in blocks that are none of the call's own. -/
inductive FzAtI (V : CV → Value → Prop) : List CV → Addr → Prop
  | nil (a : Addr) : FzAtI V [] a
  | ints (k : IntKind) (n : Nat) (f : Nat → Int) (cs : List CV) (a : Addr) (hc : ∀ i, i < n → w.cell? (a.add i) = some (.int k (f i))) (ho : 0 < n → ¬ own a.block) (hr : FzAtI V cs (a.add n)) : FzAtI V (.ints k n f :: cs) a
  | one (c : CV) (cs : List CV) (a : Addr) (v : Value) (hc : w.cell? a = some v) (ho : ¬ own a.block) (hv : V c v) (hr : FzAtI V cs (a.add 1)) : FzAtI V (c :: cs) a

inductive FzV : CV → Value → Prop
  | int (k : IntKind) (n : Int) : FzV (.int k n) (.int k n)
  | bool (b : Bool) : FzV (.bool b) (.bool b)
  | str (s : ByteArray) : FzV (.str s) (.string s)
  | fz (t : DT) (xs : List t.T) (n : Option Nat) (A : Option Addr) (c : Nat) (hn : lenOfFz xs n ≤ xs.length) (hc : xs.length ≤ c) (h0 : A = none → xs = [] ∧ c = 0)
      (hat : ∀ a, A = some a → ∀ i (hi : i < xs.length), FzAtI w own FzV (encD t xs[i]) (a.add (i * t.size))) : FzV (.fz t xs n) (.slice A (lenOfFz xs n) c)
  | pt (cs : List CV) (room : Nat) (a : Addr) (hat : FzAtI w own FzV cs a) (hr : room ≤ segSize cs) : FzV (.fzp cs none room) (.pointer (some a))
end

theorem FzV.mono {w w' : World} {own own' : Nat → Prop} (H : ∀ (x : Addr) v, ¬ own x.block → w.cell? x = some v → w'.cell? x = some v ∧ ¬ own' x.block)
    {c : CV} {v : Value} (h : FzV w own c v) : FzV w' own' c v := by
  refine FzV.rec (motive_1 := fun c v _ => FzV w' own' c v) (motive_2 := fun cs a _ => FzAtI w' own' (FzV w' own') cs a) ?_ ?_ ?_ ?_ ?_ ?_ ?_ ?_ h
  · exact fun k n => .int k n
  · exact fun b => .bool b
  · exact fun s => .str s
  · intro t xs n A c hn hc h0 hat ih
    exact .fz t xs n A c hn hc h0 fun a ha i hi => ih a ha i hi
  · intro cs room a hat hr ih
    exact .pt cs room a ih hr
  · exact fun a => .nil a
  · intro k n f cs a hc ho hr ih
    have ab : ∀ i, (a.add i).block = a.block := fun i => by unfold Addr.add; split <;> rfl
    refine .ints k n f cs a (fun i hi => (H _ _ (by rw [ab]; exact ho (by omega)) (hc i hi)).1) (fun hn => ?_) ih
    have h0 := H _ _ (by rw [ab]; exact ho hn) (hc 0 hn)
    rw [ab] at h0
    exact h0.2
  · intro c cs a v hc ho hv hr ihv ihr
    have h0 := H _ _ ho hc
    exact .one c cs a v h0.1 h0.2 ihv ihr

def FzAt (w : World) (own : Nat → Prop) (cs : List CV) (a : Addr) : Prop := FzAtI w own (FzV w own) cs a

theorem FzAt.mono {w w' : World} {own own' : Nat → Prop} (H : ∀ (x : Addr) v, ¬ own x.block → w.cell? x = some v → w'.cell? x = some v ∧ ¬ own' x.block)
    {cs : List CV} {a : Addr} (h : FzAt w own cs a) : FzAt w' own' cs a := by
  induction h with
  | nil a => exact .nil a
  | ints k n f cs a hc ho hr ih =>
    have ab : ∀ i, (a.add i).block = a.block := fun i => by unfold Addr.add; split <;> rfl
    refine .ints k n f cs a (fun i hi => (H _ _ (by rw [ab]; exact ho (by omega)) (hc i hi)).1) (fun hn => ?_) ih
    have h0 := H _ _ (by rw [ab]; exact ho hn) (hc 0 hn)
    rw [ab] at h0
    exact h0.2
  | one c cs a v hc ho hv hr ih =>
    have h0 := H _ _ ho hc
    exact .one c cs a v h0.1 h0.2 (hv.mono H) ih

/-! ### The call's own regions -/
def Reg.live : Reg → Prop
  | .dead => False
  | _ => True

abbrev Heap := Nat → Option Reg

/-- names from here on stand for blocks that are a caller's own -/
abbrev hidN : Nat := 2000000

def OwnR (h : Heap) (β : Nat → Value) (b : Nat) : Prop := ∃ r g, h r = some g ∧ g.live ∧ blkOf (β r) = some b
def Hid (β : Nat → Value) (b : Nat) : Prop := ∃ r, hidN ≤ r ∧ blkOf (β r) = some b
def Own (h : Heap) (β : Nat → Value) (b : Nat) : Prop := OwnR h β b ∨ Hid β b

theorem Hid.congr {β β' : Nat → Value} (h : ∀ r, hidN ≤ r → β' r = β r) {b : Nat} (H : Hid β' b) : Hid β b := by
  obtain ⟨r, hr, hb⟩ := H
  exact ⟨r, hr, by rw [← h r hr]; exact hb⟩
theorem Own.none {b : Nat} (H : Own (fun _ => none) (fun _ => undef) b) : False := by
  rcases H with ⟨r, g, hr, _⟩ | ⟨r, _, hb⟩
  · cases hr
  · simp [undef, blkOf] at hb

def PtrOk (bv : Value) (base : Nat) (o : Option (Nat × Nat)) (room : Nat) (v : Value) : Reg → Prop
  | .cells segs => ∃ b, bv = .pointer (some ⟨b, 0, none⟩) ∧ v = .pointer (some ⟨b, base + offOf o, none⟩) ∧ base + offOf o + room ≤ segSize segs ∧ ∀ i lim, o = some (i, lim) → i + room ≤ lim
  | .row _ _ xs => base = 0 ∧ offOf o + room ≤ xs.length ∧ ∃ b cap, bv = .slice (some ⟨b, 0, none⟩) xs.length cap ∧ v = .pointer (some ⟨b, offOf o, none⟩)
  | .rowd _ _ _ => False
  | .imap _ => False
  | .dead => v.oneCell' = true

def FullOk (bv v : Value) : Reg → Prop
  | .cells _ => False
  | .row _ _ _ => v = bv ∧ v.oneCell' = true
  | .rowd _ _ _ => v = bv ∧ v.oneCell' = true
  | .imap _ => v = bv ∧ v.oneCell' = true
  | .dead => v.oneCell' = true

def SlOk (bv : Value) (o n : Nat) (v : Value) : Reg → Prop
  | .cells _ => False
  | .row _ _ xs => o + n ≤ xs.length ∧ ∃ A cap A', bv = .slice A xs.length cap ∧ v = .slice A' n (cap - o) ∧ (o < cap → A' = A.map (·.add o))
  | .rowd _ _ _ => False
  | .imap _ => False
  | .dead => v.oneCell' = true

/-- a slice into cells: from lo on, n of them, of an array of lim cells that begins at base -/
def AslOk (bv : Value) (base lo n lim : Nat) (v : Value) : Reg → Prop
  | .cells segs => ∃ b, bv = .pointer (some ⟨b, 0, none⟩) ∧ lo + n ≤ lim ∧ base + lim ≤ segSize segs ∧ v = .slice (some (if lim = lo then ⟨b, base, none⟩ else ⟨b, base + lo, none⟩)) n (lim - lo)
  | .row _ _ _ => False
  | .rowd _ _ _ => False
  | .imap _ => False
  | .dead => v.oneCell' = true

section
variable (h : Heap) (β : Nat → Value) (w : World)

def CVRel : CV → Value → Prop
  | .int k n, v => v = .int k n
  | .bool b, v => v = .bool b
  | .str s, v => v = .string s
  | .val x, v => v = x
  | .ptr r base o room, v => ∃ g, h r = some g ∧ PtrOk (β r) base o room v g
  | .full r, v => ∃ g, h r = some g ∧ FullOk (β r) v g
  | .sl r o n, v => ∃ g, h r = some g ∧ SlOk (β r) o n v g
  | .asl r base lo n lim, v => ∃ g, h r = some g ∧ AslOk (β r) base lo n lim v g
  | .fz t xs n, v => FzV w (Own h β) (.fz t xs n) v
  | .fzp cs o room, v => ∃ a, v = .pointer (some (a.add (offOf o))) ∧ FzAt w (Own h β) cs a ∧ offOf o + room ≤ segSize cs ∧ ∀ i lim, o = some (i, lim) → i + room ≤ lim
  | .clo f caps, v => ∃ vs : List Value, v = .func (.func f) #[] vs.toArray ∧ vs.length = caps.length ∧ ∀ (i r : Nat), caps[i]? = some r → ∃ (u : Value) (g : Reg), vs[i]? = some u ∧ h r = some g ∧ PtrOk (β r) 0 none 1 u g
  | .ints _ _ _, _ => False
  | .junk _, _ => False

def SegsRel : List CV → List Value → Prop
  | [], l => l = []
  | .ints k n f :: cs, l => ∃ r, l = fnV k n f ++ r ∧ SegsRel cs r
  | .junk n :: cs, l => ∃ a r, l = a ++ r ∧ a.length = n ∧ (∀ v ∈ a, v.oneCell' = true) ∧ SegsRel cs r
  | c :: cs, l => ∃ v r, l = v :: r ∧ v.oneCell' = true ∧ CVRel h β w c v ∧ SegsRel cs r

mutual
def AVRel : AV → Value → Prop
  | .c x, v => CVRel h β w x v
  | .agg xs, v => ∃ l : List Value, v = .agg l.toArray ∧ SegsRel h β w xs l
  | .tup xs, v => ∃ l : List Value, v = .tuple l.toArray ∧ AVsRel xs l
  | .pan _ _, _ => False
def AVsRel : List AV → List Value → Prop
  | [], l => l = []
  | x :: xs, l => ∃ v r, l = v :: r ∧ AVRel x v ∧ AVsRel xs r
end

def RegRel (bv : Value) : Reg → Prop
  | .cells segs => ∃ b T cs, bv = .pointer (some ⟨b, 0, none⟩) ∧ w.heap[b]? = some (.cells cs T (0, 0)) ∧ SegsRel h β w segs cs.toList
  | .row e k xs => (bv = .slice none 0 0 ∧ xs = []) ∨ ∃ b cap tail, bv = .slice (some ⟨b, 0, none⟩) xs.length cap ∧
      w.heap[b]? = some (.cells (intsV k xs ++ tail).toArray e (0, 0)) ∧ xs.length + tail.length = cap ∧ cap ≤ maxLen
  | .rowd e t xs => (bv = .slice none 0 0 ∧ xs = []) ∨ ∃ b cap l tail, bv = .slice (some ⟨b, 0, none⟩) xs.length cap ∧
      w.heap[b]? = some (.cells (l ++ tail).toArray e (0, 0)) ∧ SegsRel h β w (xs.flatMap (encD t)) l ∧ l.length + tail.length = cap * t.size ∧ xs.length ≤ cap ∧ cap ≤ maxLen
  | .imap xs => ∃ b es clock, bv = .map (some b) ∧ w.heap[b]? = some (.map es clock) ∧ es.toList.map (fun e => (e.key, e.val)) = xs.map (fun p => (Value.int .i64 p.1, Value.int .i64 p.2))
  | .dead => True
end

/-- Regions hold as many cells as they did, or are given up. -/
def Shape : Reg → Reg → Prop
  | .cells s, .cells s' => segSize s' = segSize s
  | .row e k xs, .row e' k' xs' => e' = e ∧ k' = k ∧ xs'.length = xs.length
  | .rowd e t xs, .rowd e' t' xs' => e' = e ∧ t' = t ∧ xs'.length = xs.length
  | .imap _, .imap _ => True
  | _, .dead => True
  | _, _ => False

theorem Shape.refl (g : Reg) : Shape g g := by cases g <;> simp [Shape]

/-- What the values know is kept: regions' shapes, frozen data. -/
structure Mono (h : Heap) (β : Nat → Value) (w : World) (h' : Heap) (β' : Nat → Value) (w' : World) : Prop where
  reg : ∀ r g, h r = some g → ∃ g', h' r = some g' ∧ Shape g g' ∧ (g'.live → β' r = β r)
  fz : ∀ (x : Addr) v, ¬ Own h β x.block → w.cell? x = some v → w'.cell? x = some v ∧ ¬ Own h' β' x.block

theorem PtrOk.shape {bv bv' : Value} {base room : Nat} {o : Option (Nat × Nat)} {v : Value} {g g' : Reg} (h : PtrOk bv base o room v g) (hs : Shape g g') (hb : g'.live → bv' = bv) : PtrOk bv' base o room v g' := by
  cases g <;> cases g' <;> simp only [Shape] at hs <;> simp only [Reg.live, forall_const] at hb <;> simp only [PtrOk] at *
  · subst hb; rw [hs]; exact h
  · obtain ⟨b, _, rfl, _⟩ := h; rfl
  · subst hb; rw [hs.2.2]; exact h
  · obtain ⟨_, _, b, cap, _, rfl⟩ := h; rfl
  · exact h

theorem FullOk.shape {bv bv' v : Value} {g g' : Reg} (h : FullOk bv v g) (hs : Shape g g') (hb : g'.live → bv' = bv) : FullOk bv' v g' := by
  cases g <;> cases g' <;> simp only [Shape] at hs <;> simp only [Reg.live, forall_const] at hb <;> simp only [FullOk] at *
  · subst hb; exact h
  · exact h.2
  · subst hb; exact h
  · exact h.2
  · subst hb; exact h
  · exact h.2
  · exact h

theorem SlOk.shape {bv bv' v : Value} {o n : Nat} {g g' : Reg} (h : SlOk bv o n v g) (hs : Shape g g') (hb : g'.live → bv' = bv) : SlOk bv' o n v g' := by
  cases g <;> cases g' <;> simp only [Shape] at hs <;> simp only [Reg.live, forall_const] at hb <;> simp only [SlOk] at *
  · subst hb; rw [hs.2.2]; exact h
  · obtain ⟨_, A, cap, A', _, rfl, _⟩ := h; rfl
  · exact h

theorem AslOk.shape {bv bv' v : Value} {base lo n lim : Nat} {g g' : Reg} (h : AslOk bv base lo n lim v g) (hs : Shape g g') (hb : g'.live → bv' = bv) : AslOk bv' base lo n lim v g' := by
  cases g <;> cases g' <;> simp only [Shape] at hs <;> simp only [Reg.live, forall_const] at hb <;> simp only [AslOk] at *
  · subst hb; rw [hs]; exact h
  · obtain ⟨b, _, _, _, rfl⟩ := h; rfl
  · exact h

section
variable {h h' : Heap} {β β' : Nat → Value} {w w' : World}

theorem CVRel.mono (M : Mono h β w h' β' w') {c : CV} {v : Value} (H : CVRel h β w c v) : CVRel h' β' w' c v := by
  cases c <;> simp only [CVRel] at * <;> try exact H
  · obtain ⟨g, hg, hp⟩ := H
    obtain ⟨g', hg', hs, hb⟩ := M.reg _ _ hg
    exact ⟨g', hg', hp.shape hs hb⟩
  · obtain ⟨g, hg, hp⟩ := H
    obtain ⟨g', hg', hs, hb⟩ := M.reg _ _ hg
    exact ⟨g', hg', hp.shape hs hb⟩
  · obtain ⟨g, hg, hp⟩ := H
    obtain ⟨g', hg', hs, hb⟩ := M.reg _ _ hg
    exact ⟨g', hg', hp.shape hs hb⟩
  · obtain ⟨g, hg, hp⟩ := H
    obtain ⟨g', hg', hs, hb⟩ := M.reg _ _ hg
    exact ⟨g', hg', hp.shape hs hb⟩
  · exact H.mono M.fz
  · obtain ⟨a, hv, hf, hr⟩ := H
    exact ⟨a, hv, hf.mono M.fz, hr⟩
  · obtain ⟨vs, hv, hl, H⟩ := H
    refine ⟨vs, hv, hl, fun i r hi => ?_⟩
    obtain ⟨u, g, hu, hg, hp⟩ := H i r hi
    obtain ⟨g', hg', hs, hb⟩ := M.reg _ _ hg
    exact ⟨u, g', hu, hg', hp.shape hs hb⟩

theorem SegsRel.mono (M : Mono h β w h' β' w') : ∀ {cs : List CV} {l : List Value}, SegsRel h β w cs l → SegsRel h' β' w' cs l := by
  intro cs
  induction cs with
  | nil => exact fun H => H
  | cons c cs ih =>
    intro l H
    cases c <;> simp only [SegsRel] at H ⊢
    case ints k n f => obtain ⟨r, hl, hr⟩ := H; exact ⟨r, hl, ih hr⟩
    case junk n => obtain ⟨a, r, hl, ha, h1, hr⟩ := H; exact ⟨a, r, hl, ha, h1, ih hr⟩
    all_goals (obtain ⟨v, r, hl, h1, hv, hr⟩ := H; exact ⟨v, r, hl, h1, hv.mono M, ih hr⟩)

mutual
theorem AVRel.mono (M : Mono h β w h' β' w') : ∀ {x : AV} {v : Value}, AVRel h β w x v → AVRel h' β' w' x v
  | .c _, _, H => by simp only [AVRel] at *; exact CVRel.mono M H
  | .agg _, _, H => by simp only [AVRel] at *; obtain ⟨l, hl, hs⟩ := H; exact ⟨l, hl, SegsRel.mono M hs⟩
  | .tup _, _, H => by simp only [AVRel] at *; obtain ⟨l, hl, hs⟩ := H; exact ⟨l, hl, AVsRel.mono M hs⟩
  | .pan _ _, _, H => by simp only [AVRel] at *
theorem AVsRel.mono (M : Mono h β w h' β' w') : ∀ {xs : List AV} {l : List Value}, AVsRel h β w xs l → AVsRel h' β' w' xs l
  | [], _, H => by simp only [AVsRel] at *; exact H
  | _ :: _, _, H => by simp only [AVsRel] at *; obtain ⟨v, r, hl, hv, hr⟩ := H; exact ⟨v, r, hl, AVRel.mono M hv, AVsRel.mono M hr⟩
end

/-- What the machine's heap says of a region, where its block stays as it was. -/
theorem RegRel.mono (M : Mono h β w h' β' w') {bv : Value} {g : Reg} (hb : ∀ b, blkOf bv = some b → g.live → w'.heap[b]? = w.heap[b]?) (H : RegRel h β w bv g) : RegRel h' β' w' bv g := by
  cases g with
  | cells segs =>
    obtain ⟨b, T, cs, hbv, hw, hs⟩ := H
    exact ⟨b, T, cs, hbv, by rw [hb b (by simp [hbv, blkOf]) trivial]; exact hw, hs.mono M⟩
  | row e k xs =>
    rcases H with H | ⟨b, cap, tail, hbv, hw, hl⟩
    · exact .inl H
    · exact .inr ⟨b, cap, tail, hbv, by rw [hb b (by simp [hbv, blkOf]) trivial]; exact hw, hl⟩
  | imap xs =>
    obtain ⟨b, es, clock, hbv, hw, hl⟩ := H
    exact ⟨b, es, clock, hbv, by rw [hb b (by simp [hbv, blkOf]) trivial]; exact hw, hl⟩
  | rowd e t xs =>
    rcases H with H | ⟨b, cap, l, tail, hbv, hw, hs, hl⟩
    · exact .inl H
    · exact .inr ⟨b, cap, l, tail, hbv, by rw [hb b (by simp [hbv, blkOf]) trivial]; exact hw, hs.mono M, hl⟩
  | dead => trivial
end

/-! ### The whole state -/
/-- What stays through a call: the values of the regions that were handed in, the blocks that are the callers' own, the deferred calls. -/
structure FP where
  anc : Nat → Option Value
  hb : Nat → Value
  dfs : List Deferred
def FP.blk (F : FP) (b : Nat) : Prop := ∃ q bv, F.anc q = some bv ∧ blkOf bv = some b
def FP.nil : FP := ⟨fun _ => none, fun _ => undef, []⟩
theorem FP.nil_blk {b : Nat} (h : FP.nil.blk b) : False := by obtain ⟨q, bv, h, _⟩ := h; cases h
theorem FP.nil_hid {b : Nat} (h : Hid FP.nil.hb b) : False := by obtain ⟨q, _, h⟩ := h; simp [FP.nil, undef, blkOf] at h

structure Rel (P : Program) (w0 : World) (fp : FP) (nt : Nat) (β : Nat → Value) (st : St) (a : Act) (w : World) : Prop where
  defers : a.defers = fp.dfs
  size : a.tmps.size = nt
  small : nt ≤ ioN
  env : ∀ t av, st.env t = some av → AVRel st.heap β w av (a.tmps.getD t undef)
  heap : ∀ r g, st.heap r = some g → RegRel st.heap β w (β r) g
  sep : ∀ r r' g g' b, st.heap r = some g → st.heap r' = some g' → g.live → g'.live → blkOf (β r) = some b → blkOf (β r') = some b → r = r'
  lo : ∀ b, OwnR st.heap β b → w0.heap.size ≤ b ∨ fp.blk b
  hid : ∀ b, Hid fp.hb b → b < w0.heap.size ∧ ¬ fp.blk b
  hb : ∀ r, hidN ≤ r → β r = fp.hb r
  os : w.os = w0.os
  tape : w.tape = w0.tape
  output : w.output = w0.output
  grow : w0.heap.size ≤ w.heap.size
  keep : ∀ b, b < w0.heap.size → ¬ fp.blk b → w.heap[b]? = w0.heap[b]?
  anc : ∀ q bv g, fp.anc q = some bv → st.heap q = some g → g.live → β q = bv
  ancN : ∀ q bv, fp.anc q = some bv → ioN ≤ q

section
variable {P : Program} {w0 : World} {fp : FP} {nt : Nat} {β β' : Nat → Value} {st : St} {a : Act} {w w' : World}

theorem OwnR.lt (R : Rel P w0 fp nt β st a w) {b : Nat} (h : OwnR st.heap β b) : b < w.heap.size := by
  obtain ⟨r, g, hr, hl, hb⟩ := h
  have H := R.heap r g hr
  have key : ∀ (o : Obj), w.heap[b]? = some o → b < w.heap.size := fun o ho => (Array.getElem?_eq_some_iff.1 ho).1
  cases g with
  | cells segs =>
    obtain ⟨b', T, cs, hbv, hw, _⟩ := H
    have : b' = b := by simpa [hbv, blkOf] using hb
    subst this
    exact key _ hw
  | row e k xs =>
    rcases H with ⟨H, _⟩ | ⟨b', cap, tail, hbv, hw, _⟩
    · simp [H, blkOf] at hb
    · have : b' = b := by simpa [hbv, blkOf] using hb
      subst this
      exact key _ hw
  | imap xs =>
    obtain ⟨b', es, clock, hbv, hw, _⟩ := H
    have : b' = b := by simpa [hbv, blkOf] using hb
    subst this
    exact key _ hw
  | rowd e t xs =>
    rcases H with ⟨H, _⟩ | ⟨b', cap, l, tail, hbv, hw, _⟩
    · simp [H, blkOf] at hb
    · have : b' = b := by simpa [hbv, blkOf] using hb
      subst this
      exact key _ hw
  | dead => exact hl.elim

theorem Rel.hid' (R : Rel P w0 fp nt β st a w) {b : Nat} (h : Hid β b) : b < w0.heap.size ∧ ¬ fp.blk b := R.hid b (Hid.congr (fun r hr => R.hb r hr) h)

/-- what is the call's own is none of its callers' -/
theorem Rel.apart (R : Rel P w0 fp nt β st a w) {b : Nat} (h : OwnR st.heap β b) (h' : Hid β b) : False := by
  obtain ⟨h1, h2⟩ := R.hid' h'
  rcases R.lo b h with h3 | h3
  · omega
  · exact h2 h3

theorem Own.lt (R : Rel P w0 fp nt β st a w) {b : Nat} (h : Own st.heap β b) : b < w.heap.size := by
  rcases h with h | h
  · exact h.lt R
  · exact Nat.lt_of_lt_of_le (R.hid' h).1 R.grow

theorem getD_put {a : Act} {dst : Option Nat} {v : Value} {t : Nat} (hd : ∀ d, dst = some d → d < a.tmps.size) :
    (a.put dst v).tmps.getD t undef = if dst = some t then v else a.tmps.getD t undef := by
  cases dst with
  | none => simp [Act.put]
  | some d =>
    simp only [Act.put, Option.some.injEq]
    by_cases h : d = t
    · subst h
      have := hd d rfl
      simp [this]
    · rw [if_neg h]
      simp [Array.getElem?_setIfInBounds_ne h]

theorem dst_io {d : Nat} (R : Rel P w0 fp nt β st a w) (hd : dstOk nt (some d) = true) {g0 : Option Reg} : ∀ q g, ioN ≤ q → upd st.heap d g0 q = some g → ∃ g0, st.heap q = some g0 := by
  intro q g hq h
  have h1 : d < nt := by simpa [dstOk, Nat.blt_eq] using hd
  have h2 := R.small
  have : d ≠ q := by omega
  simp only [upd] at h
  cases hb : Nat.beq q d with
  | false => rw [hb] at h; exact ⟨g, h⟩
  | true => exact absurd (Nat.eq_of_beq_eq_true hb).symm this

theorem dst_hid {d : Nat} (R : Rel P w0 fp nt β st a w) (hd : dstOk nt (some d) = true) (v : Value) : ∀ r, hidN ≤ r → upd β d v r = β r := by
  intro r hr
  have h1 : d < nt := by simpa [dstOk, Nat.blt_eq] using hd
  have h2 := R.small
  have : d ≠ r := by have : hidN = 2000000 := rfl; have : ioN = 1000000 := rfl; omega
  simp only [upd]
  cases hb : Nat.beq r d with
  | false => rfl
  | true => exact absurd (Nat.eq_of_beq_eq_true hb).symm this

/-- THE STEP: the world has turned, regions in h' are as told; the value of the step is laid into its slot. -/
theorem Rel.update (R : Rel P w0 fp nt β st a w) {h' : Heap} {dst : Option Nat} {av : AV} {v : Value} (hd : dstOk nt dst = true)
    (hos : w'.os = w.os) (htape : w'.tape = w.tape) (hout : w'.output = w.output) (hgrow : w.heap.size ≤ w'.heap.size) (hβ : ∀ r, hidN ≤ r → β' r = β r)
    (hblk : ∀ b, b < w.heap.size → ¬ OwnR st.heap β b → w'.heap[b]? = w.heap[b]?)
    (hown : ∀ b, OwnR h' β' b → OwnR st.heap β b ∨ w.heap.size ≤ b)
    (hreg : ∀ r g, st.heap r = some g → ∃ g', h' r = some g' ∧ Shape g g' ∧ (g'.live → β' r = β r))
    (hnew : ∀ q g, ioN ≤ q → h' q = some g → ∃ g0, st.heap q = some g0)
    (hheap : Mono st.heap β w h' β' w' → ∀ r g, h' r = some g → RegRel h' β' w' (β' r) g)
    (hsep : ∀ r r' g g' b, h' r = some g → h' r' = some g' → g.live → g'.live → blkOf (β' r) = some b → blkOf (β' r') = some b → r = r')
    (hval : Mono st.heap β w h' β' w' → AVRel h' β' w' av v) :
    Rel P w0 fp nt β' { env := putEnv st.env dst av, heap := h' } (a.put dst v) w' := by
  have M : Mono st.heap β w h' β' w' := ⟨hreg, fun x v hx hc => by
    have hlt : x.block < w.heap.size := World.block_lt_of_cell? w x hc
    have hb := hblk x.block hlt (fun h => hx (.inl h))
    refine ⟨(World.cell?_of_block (w := w) hb).trans hc, fun ho => ?_⟩
    rcases ho with h | h
    · rcases hown _ h with h | h
      · exact hx (.inl h)
      · omega
    · exact hx (.inr (h.congr hβ))⟩
  have hd' : ∀ d, dst = some d → d < a.tmps.size := fun d e => by
    subst e
    rw [R.size]
    simpa [dstOk, Nat.blt_eq] using hd
  have shl : ∀ g g' : Reg, Shape g g' → g'.live → g.live := by
    intro g g' hs hl
    cases g <;> cases g' <;> simp only [Shape] at hs <;> simp [Reg.live] at hl ⊢
  refine ⟨?_, ?_, R.small, ?_, hheap M, hsep, ?_, R.hid, fun r hr => (hβ r hr).trans (R.hb r hr), hos.trans R.os, htape.trans R.tape, hout.trans R.output, Nat.le_trans R.grow hgrow, ?_, ?_, R.ancN⟩
  · cases dst <;> simp [Act.put, R.defers]
  · cases dst <;> simp [Act.put, R.size]
  · intro t x hx
    rw [getD_put hd']
    cases dst with
    | none =>
      rw [if_neg (by simp)]
      exact (R.env t x hx).mono M
    | some d =>
      by_cases e : d = t
      · subst e
        simp only [putEnv, upd, Nat.beq_refl, cond_true, Option.some.injEq] at hx
        subst hx
        rw [if_pos rfl]
        exact hval M
      · have : Nat.beq t d = false := by
          cases hb : Nat.beq t d with
          | false => rfl
          | true => exact absurd (Nat.eq_of_beq_eq_true hb).symm e
        simp only [putEnv, upd, this, cond_false] at hx
        rw [if_neg (by simpa using e)]
        exact (R.env t x hx).mono M
  · intro b hb
    rcases hown b hb with h | h
    · exact R.lo b h
    · exact .inl (Nat.le_trans R.grow h)
  · intro b hb hf
    have hno : ¬ OwnR st.heap β b := fun ho => by
      rcases R.lo b ho with h | h
      · omega
      · exact hf h
    rw [hblk b (Nat.lt_of_lt_of_le hb R.grow) hno]
    exact R.keep b hb hf
  · intro q bv g hq hg hl
    obtain ⟨g0, hg0⟩ := hnew q g (R.ancN q bv hq) hg
    obtain ⟨g', hg', hs, hbb⟩ := hreg _ _ hg0
    have hg : h' q = some g := hg
    rw [hg] at hg'
    cases hg'
    rw [hbb hl]
    exact R.anc q bv g0 hq hg0 (shl g0 g hs hl)

theorem Mono.refl (h : Heap) (β : Nat → Value) (w : World) : Mono h β w h β w := ⟨fun _ g hr => ⟨g, hr, .refl g, fun _ => rfl⟩, fun _ _ hx hc => ⟨hc, hx⟩⟩

/-- A step that turns nothing but its slot. -/
theorem Rel.pure (R : Rel P w0 fp nt β st a w) {dst : Option Nat} {av : AV} {v : Value} {hr : List Nat} (hd : dstOk nt dst = true) (hv : AVRel st.heap β w av v) :
    Rel P w0 fp nt β (st.app dst ⟨av, [], hr⟩) (a.put dst v) w :=
  R.update (w' := w) (h' := st.heap) hd rfl rfl rfl (Nat.le_refl _) (fun _ _ => rfl) (fun _ _ _ => rfl) (fun _ h => .inl h) (Mono.refl st.heap β w).reg (fun _ g _ hg => ⟨g, hg⟩) (fun _ => R.heap) R.sep (fun _ => hv)

/-- The count of draws is of no matter. -/
theorem CVRel.drew {h : Heap} {c : CV} {v : Value} (n : Nat) (H : CVRel h β w c v) : CVRel h β { w with drawn := n } c v :=
  H.mono (show Mono h β w h β { w with drawn := n } from ⟨(Mono.refl h β w).reg, fun _ _ hx hc => ⟨hc, hx⟩⟩)

theorem Rel.drew (R : Rel P w0 fp nt β st a w) (n : Nat) : Rel P w0 fp nt β st a { w with drawn := n } := by
  have M : Mono st.heap β w st.heap β { w with drawn := n } := ⟨(Mono.refl _ β w).reg, fun _ _ hx hc => ⟨hc, hx⟩⟩
  exact ⟨R.defers, R.size, R.small, fun t x hx => (R.env t x hx).mono M, fun _ _ hr => (R.heap _ _ hr).mono M (fun _ _ _ => rfl), R.sep, R.lo, R.hid, R.hb, R.os, R.tape, R.output, R.grow, R.keep, R.anc, R.ancN⟩

/-- Less is known. -/
theorem Rel.killW (R : Rel P w0 fp nt β st a w) (W : List Nat) : Rel P w0 fp nt β { env := st.env, heap := killH W st.heap } a w := by
  have key : ∀ r g, killH W st.heap r = some g → g = .dead ∨ st.heap r = some g := by
    intro r g h
    unfold killH at h
    cases hm : memB r W with
    | true => rw [hm] at h; cases h; exact .inl rfl
    | false => rw [hm] at h; exact .inr h
  have live : ∀ r g, killH W st.heap r = some g → g.live → st.heap r = some g := by
    intro r g h hl
    rcases key r g h with rfl | h
    · exact hl.elim
    · exact h
  have own : ∀ b, OwnR (killH W st.heap) β b → OwnR st.heap β b := fun b ⟨r, g, h, hl, hb⟩ => ⟨r, g, live r g h hl, hl, hb⟩
  have M : Mono st.heap β w (killH W st.heap) β w := by
    refine ⟨fun r g h => ?_, fun x v hx hc => ⟨hc, fun ho => hx (ho.imp (own _) id)⟩⟩
    unfold killH
    cases hm : memB r W with
    | true => exact ⟨.dead, rfl, by cases g <;> trivial, fun h => h.elim⟩
    | false => exact ⟨g, h, .refl g, fun _ => rfl⟩
  refine ⟨R.defers, R.size, R.small, fun t av ht => (R.env t av ht).mono M, fun r g h => ?_, fun r r' g g' b h h' hl hl' => R.sep r r' g g' b (live r g h hl) (live r' g' h' hl') hl hl', fun b h => R.lo b (own b h), R.hid, R.hb, R.os, R.tape, R.output, R.grow, R.keep, fun q bv g hq h hl => R.anc q bv g hq (live q g h hl) hl, R.ancN⟩
  rcases key r g h with rfl | h
  · trivial
  · exact (R.heap r g h).mono M (fun _ _ _ => rfl)
theorem Rel.less (R : Rel P w0 fp nt β st a w) {env : Nat → Option AV} (h : ∀ t av, env t = some av → st.env t = some av) : Rel P w0 fp nt β { env := env, heap := st.heap } a w :=
  ⟨R.defers, R.size, R.small, fun t av ht => R.env t av (h t av ht), R.heap, R.sep, R.lo, R.hid, R.hb, R.os, R.tape, R.output, R.grow, R.keep, R.anc, R.ancN⟩
end
end Go.Abs
