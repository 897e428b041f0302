/- Data of any kind that came in. -/
import Derived.Test.YtmfdbnhknaemdaaAbsLawM
import Derived.ChangeArms
set_option linter.unusedVariables false
set_option linter.unusedSimpArgs false
namespace Go.Abs
open Go.ChangeShapes Go.WideShapes Go.ChangeAt Go.RowKit

def DT.bytes : DT → Nat
  | .int k => k.bits / 8
  | .bool => 1
  | .str => 16
  | .item => 56
  | .arr k n => k.bits / 8 * n
  | .sl _ => 24
  | .pair a b => a.bytes + b.bytes
  | .pt _ => 8
  | .unit => 0

mutual
/-- A type of the program is a kind of data. -/
inductive HasD (P : Program) : TypeId → DT → Prop
  | int {t k} : P.underlying t = some (.int k) → HasD P t (.int k)
  | bool {t} : P.underlying t = some .bool → HasD P t .bool
  | str {t} : P.underlying t = some .string → HasD P t .str
  | sl {t e d} : P.underlying t = some (.slice e) → P.cellsOf e = d.size → Nat.ble d.bytes (P.bytesOf e) = true → HasD P e d → HasD P t (.sl d)
  | item {t b : TypeId} {f0 f1 f2 : Field} : P.underlying t = some (.struct #[f0, f1, f2]) → P.cellsOf t = 3 → P.bytesOf t = 56 → f0.offset = 0 → f1.offset = 1 → f2.offset = 2 → P.cellsOf f0.type = 1 → P.cellsOf f1.type = 1 → P.cellsOf f2.type = 1 →
      P.underlying f0.type = some (.int .u8) → P.underlying f1.type = some (.slice b) → P.underlying b = some (.int .u8) → P.cellsOf b = 1 → P.bytesOf b = 1 → P.underlying f2.type = some (.slice t) → HasD P t .item
  | st3 {t : TypeId} {f0 f1 f2 : Field} {a b c : DT} : P.underlying t = some (.struct #[f0, f1, f2]) → P.cellsOf t = a.size + (b.size + c.size) → f0.offset = 0 → f1.offset = a.size → f2.offset = a.size + b.size → P.cellsOf f0.type = a.size → P.cellsOf f1.type = b.size → P.cellsOf f2.type = c.size →
      HasD P f0.type a → HasD P f1.type b → HasD P f2.type c → HasD P t (.pair a (.pair b c))
  | st {t : TypeId} {fs : Array Field} {a b : DT} : P.underlying t = some (.struct fs) → P.cellsOf t = (DT.pair a b).size → HasFs P fs.toList 0 (.pair a b) → HasD P t (.pair a b)
/-- fields, from a cell on -/
inductive HasFs (P : Program) : List Field → Nat → DT → Prop
  | one {f : Field} {off : Nat} {a : DT} : f.offset = off → P.cellsOf f.type = a.size → HasD P f.type a → HasFs P [f] off a
  | cons {f : Field} {fs : List Field} {off : Nat} {a b : DT} : f.offset = off → P.cellsOf f.type = a.size → HasD P f.type a → HasFs P fs (off + a.size) b → HasFs P (f :: fs) off (.pair a b)
end

/-- its numbers fit, its slices are within reach -/
inductive TreeOk : Tree → Prop
  | node {t : Int} {b : List Int} {k : List Tree} : (0 ≤ t ∧ t < 256) → (∀ y ∈ b, (Lit.int .u8 y).wf = true) → b.length * 1 ≤ reachBytes → k.length * 56 ≤ reachBytes → (∀ c ∈ k, TreeOk c) → TreeOk (.node t b k)

def WfD : (d : DT) → d.T → Prop
  | .int k, x => (Lit.int k x).wf = true
  | .item, x => TreeOk x
  | .str, x => x.size ≤ reachBytes
  | .sl d, xs => List.length (α := d.T) xs * d.bytes ≤ reachBytes ∧ ∀ x : d.T, Membership.mem (γ := List d.T) xs x → WfD d x
  | .pair a b, x => WfD a x.1 ∧ WfD b x.2
  | .pt d, x => WfD d x
  | _, _ => True

/-- how much it is -/
structure Bulk (H : Type) where
  f : DataW H → Nat
  fs : List (DataW H) → Nat
  nil : fs [] = 0
  cons : ∀ d r, fs (d :: r) = f d + fs r
  slice : ∀ e s, fs e ≤ f (.slice e s)
  agg : ∀ p, fs p ≤ f (.agg p)
  lit : ∀ k n, f (.lit (.int k n)) = 1

def massL {α : Type} (f : α → Nat) : List α → Nat
  | [] => 0
  | x :: r => f x + massL f r
def massD : (d : DT) → d.T → Nat
  | .int _, _ => 1
  | .sl d, xs => massL (massD d) xs
  | .pair a b, x => massD a x.1 + massD b x.2
  | _, _ => 0

section
variable {H : Type} {enc : TypeId × Value → H} {P : Program} {W : World} {base : Nat} {spare : Nat → Bool} {held : Bool} (B : Option (Bulk H))

/-- it weighs no more than this -/
def Mass (d : DT) (y : d.T) (D : DataW H) : Prop := ∀ b, B = some b → massD d y ≤ b.f D
theorem mass_list {d : DT} {b : Bulk H} : ∀ {xs : List d.T} {ds : List (DataW H)}, xs.length ≤ ds.length → (∀ i (h : i < xs.length) (h' : i < ds.length), massD d xs[i] ≤ b.f ds[i]) → massL (massD d) xs ≤ b.fs ds := by
  intro xs
  induction xs with
  | nil => intro ds _ _; exact Nat.zero_le _
  | cons x xs ih =>
    intro ds hl H
    cases ds with
    | nil => simp at hl
    | cons e ds =>
      rw [b.cons]
      have h0 := H 0 (by simp) (by simp)
      have h1 := ih (ds := ds) (by simpa using hl) fun i h h' => H (i + 1) (by simpa using h) (by simpa using h')
      simp only [massL]
      simp only [List.getElem_cons_zero] at h0
      omega

theorem cells_at {a : Addr} {n : Nat} {cs : List Value} (h : W.cells? base a n = some cs) : cs.length = n ∧ ∀ j v, cs[j]? = some v → W.cell? (a.add j) = some v := by
  unfold World.cells? at h
  split at h
  · have h1 := mapM_some_length h
    rw [List.length_range] at h1
    refine ⟨h1, fun j v hv => ?_⟩
    have hj : j < n := by
      rw [← h1]
      exact (List.getElem?_eq_some_iff.1 hv).1
    have := mapM_some_get h j j (by rw [List.getElem?_range hj])
    rw [this]; exact hv
  · cases h

theorem weights_parts {ts : List TypeId} {ds : List (DataW H)} {m : Nat} (h : ∀ n ∈ DataW.weightsEach P ts ds, n ≤ m) : ∀ (i : Nat) t d, ts[i]? = some t → ds[i]? = some d → ∀ n ∈ DataW.weights P t d, n ≤ m := by
  intro i t d ht hd n hn
  exact h n (DataW.weights_mem_each ht hd n hn)

theorem weights_all {e : TypeId} {m : Nat} : ∀ {ds : List (DataW H)}, (∀ n ∈ DataW.weightsAll P e ds, n ≤ m) → ∀ (d : DataW H), d ∈ ds → ∀ n ∈ DataW.weights P e d, n ≤ m := by
  intro ds
  induction ds with
  | nil => intro _ d hd; cases hd
  | cons x r ih =>
    intro h d hd n hn
    simp only [DataW.weightsAll, List.mem_append] at h
    rcases List.mem_cons.1 hd with rfl | hd
    · exact h n (.inl hn)
    · exact ih (fun n hn => h n (.inr hn)) d hd n hn

theorem pick_list {α : Type} {p : Nat → α → Prop} : ∀ (n : Nat), (∀ i, i < n → ∃ x, p i x) → ∃ xs : List α, xs.length = n ∧ ∀ i (h : i < xs.length), p i xs[i] := by
  intro n
  induction n with
  | zero => intro _; exact ⟨[], rfl, fun i h => by simp at h⟩
  | succ n ih =>
    intro h
    obtain ⟨xs, h1, h2⟩ := ih fun i hi => h i (by omega)
    obtain ⟨x, hx⟩ := h n (by omega)
    refine ⟨xs ++ [x], by simp [h1], fun i hi => ?_⟩
    by_cases e : i < xs.length
    · rw [List.getElem_append_left e]; exact h2 i e
    · simp at hi
      obtain rfl : i = n := by omega
      rw [List.getElem_append_right (by omega)]
      simp [h1]
      exact hx

def Good (W : World) (d : DT) (y : d.T) (cs : List Value) : Prop := ∀ own : Nat → Prop, (∀ b, ¬ own b) → FzL W own (encD d y) cs

/-- a slice, out of its elements -/
theorem slice_dat {d : DT} {t e : TypeId} {fuel : Nat} {cs : List Value} {x : DataW H × List MemPlace} (ht : P.underlying t = some (.slice e)) (hc : P.cellsOf e = d.size) (hb : d.bytes ≤ P.bytesOf e) (h : DataW.trod enc P W base spare held fuel t cs = some x)
    (hw : ∀ n ∈ DataW.weights P t x.1, n ≤ reachBytes)
    (ih : ∀ n, n < fuel → ∀ {cs : List Value} {x : DataW H × List MemPlace}, DataW.trod enc P W base spare held n e cs = some x → (∀ n ∈ DataW.weights P e x.1, n ≤ reachBytes) → ∃ y : d.T, WfD d y ∧ Good W d y cs ∧ Mass B d y x.1) :
    ∃ xs : List d.T, (xs.length * d.bytes ≤ reachBytes ∧ ∀ x ∈ xs, WfD d x) ∧ (∀ b, B = some b → massL (massD d) xs ≤ b.f x.1) ∧ ∃ v, cs = [v] ∧ ∀ own : Nat → Prop, (∀ b, ¬ own b) → FzV W own (.fz d xs none) v := by
  rcases DataW.trod_slice ht h with ⟨rfl, rfl⟩ | ⟨a, len, cap, elems, rest, n, rfl, rfl, rfl, hba, hl, hm, hlen, hel, _, _⟩
  · exact ⟨[], ⟨by simp, by simp⟩, fun b _ => Nat.zero_le _, _, rfl, fun own hno => .fz d [] none none 0 (Nat.le_refl _) (Nat.le_refl _) (fun _ => ⟨rfl, rfl⟩) (fun a h => by cases h)⟩
  · simp only [DataW.weights, ht, List.mem_cons, List.mem_append] at hw
    have hall := weights_all (P := P) (e := e) (m := reachBytes) (ds := elems.map (·.1)) (fun n hn => hw n (.inr (.inl hn)))
    have one : ∀ i, i < len → ∃ y : d.T, WfD d y ∧ (∃ cs', W.cells? base (a.add (i * P.cellsOf e)) (P.cellsOf e) = some cs' ∧ Good W d y cs') ∧ ∀ (h : i < (elems.map (·.1)).length), Mass B d y (elems.map (·.1))[i] := by
      intro i hi
      have h1 := hel i hi
      have hi2 : i < elems.length := by omega
      rw [List.getElem?_eq_getElem hi2, Option.bind_eq_some_iff] at h1
      obtain ⟨cs', h2, h3⟩ := h1
      obtain ⟨y, h4, h5, h6⟩ := ih n (by omega) h3 (hall _ (List.mem_map.2 ⟨elems[i], List.getElem_mem hi2, rfl⟩))
      exact ⟨y, h4, ⟨cs', h2, h5⟩, fun h => by rw [List.getElem_map]; exact h6⟩
    obtain ⟨xs, hx1, hx2⟩ := pick_list len one
    refine ⟨xs, ⟨?_, fun y hy => ?_⟩, fun b hb => ?_, _, rfl, fun own hno => ?_⟩
    · have := hw ((elems.map (·.1)).length + (rest.map (·.1)).length) 
      have h0 := hw (((elems.map (·.1)).length + (rest.map (·.1)).length) * P.bytesOf e) (.inl rfl)
      rw [List.length_map] at h0
      refine Nat.le_trans (Nat.mul_le_mul (by omega) hb) h0
    · obtain ⟨i, hi, rfl⟩ := List.getElem_of_mem hy
      exact (hx2 i hi).1
    · refine Nat.le_trans (mass_list (b := b) (by rw [List.length_map]; omega) fun i h h' => ?_) (b.slice _ _)
      exact (hx2 i h).2.2 h' b hb
    · have key := FzV.fz (w := W) (own := own) d xs none (some a) cap (Nat.le_refl _) (by rw [hx1]; exact hl) (fun h => by cases h) (by
        intro a' ha i hi
        cases ha
        obtain ⟨_, ⟨cs', h1, h2⟩, _⟩ := hx2 i hi
        obtain ⟨h3, h4⟩ := cells_at h1
        rw [hc] at h4
        exact (h2 own hno).at h4 (hno _))
      have e2 : lenOfFz xs none = len := hx1
      rw [e2] at key
      exact key

theorem fields_dat {n : Nat} {cs : List Value} (ih : ∀ {u : TypeId} {dd : DT}, HasD P u dd → ∀ {cs : List Value} {x : DataW H × List MemPlace}, DataW.trod enc P W base spare held n u cs = some x → (∀ n ∈ DataW.weights P u x.1, n ≤ reachBytes) → ∃ y : dd.T, WfD dd y ∧ Good W dd y cs ∧ Mass B dd y x.1) :
    ∀ {fs : List Field} {off : Nat} {d : DT}, HasFs P fs off d → ∀ {xs : List (DataW H × List MemPlace)}, xs.length = fs.length → (∀ (i : Nat) (f : Field), fs[i]? = some f → DataW.trod enc P W base spare held n f.type ((cs.drop f.offset).take (P.cellsOf f.type)) = xs[i]?) →
      (∀ n ∈ DataW.weightsEach P (fs.map (·.type)) (xs.map (·.1)), n ≤ reachBytes) → ∃ y : d.T, WfD d y ∧ Good W d y ((cs.drop off).take d.size) ∧ ∀ b, B = some b → massD d y ≤ b.fs (xs.map (·.1)) := by
  intro fs
  induction fs with
  | nil => intro off d hd; cases hd
  | cons f fs ihf =>
    intro off d hd xs hlen hf hw
    match xs, hlen with
    | x :: xs, hlen =>
    have h0 := hf 0 f rfl
    simp only [List.map_cons, DataW.weightsEach, List.mem_append] at hw
    cases hd with
    | one ho hc hd =>
      have hx : xs = [] := by simpa using hlen
      subst hx
      rw [ho, hc] at h0
      obtain ⟨y, h1, h2, h3⟩ := ih hd (x := x) h0 (fun n hn => hw n (.inl hn))
      refine ⟨y, h1, h2, fun b hb => ?_⟩
      have := h3 b hb
      simp only [List.map_cons, List.map_nil]
      rw [b.cons, b.nil]
      omega
    | @cons _ _ _ a b ho hc hd hr =>
      rw [ho, hc] at h0
      obtain ⟨y, h1, h2, h3⟩ := ih hd (x := x) h0 (fun n hn => hw n (.inl hn))
      obtain ⟨z, g1, g2, g3⟩ := ihf hr (xs := xs) (by simpa using hlen) (fun i f hi => hf (i + 1) f (by simpa using hi)) (fun n hn => hw n (.inr hn))
      refine ⟨(y, z), ⟨h1, g1⟩, fun own hno => ?_, fun bb hb => ?_⟩
      · have e : (cs.drop off).take (a.size + b.size) = (cs.drop off).take a.size ++ (cs.drop (off + a.size)).take b.size := by
          rw [List.take_add, List.drop_drop]
        have e2 : (DT.pair a b).size = a.size + b.size := rfl
        rw [e2, e]
        exact FzL.append (h2 own hno) (g2 own hno)
      · have := h3 bb hb
        have := g3 bb hb
        simp only [List.map_cons]
        rw [bb.cons]
        show massD a y + massD b z ≤ _
        omega

theorem trod_dat : ∀ (fuel : Nat) {t : TypeId} {d : DT}, HasD P t d → ∀ {cs : List Value} {x : DataW H × List MemPlace}, DataW.trod enc P W base spare held fuel t cs = some x → (∀ n ∈ DataW.weights P t x.1, n ≤ reachBytes) → ∃ y : d.T, WfD d y ∧ Good W d y cs ∧ Mass B d y x.1 := by
  intro fuel
  induction fuel using Nat.strongRecOn with
  | ind fuel ih =>
    intro t d hd cs x h hw
    have part : ∀ {u : TypeId} {dd : DT}, HasD P u dd → ∀ m, m < fuel → ∀ {cs : List Value} {x : DataW H × List MemPlace}, DataW.trod enc P W base spare held m u cs = some x → (∀ n ∈ DataW.weights P u x.1, n ≤ reachBytes) → ∃ y : dd.T, WfD dd y ∧ Good W dd y cs ∧ Mass B dd y x.1 := fun hu m hm _ _ h hw => ih m hm hu h hw
    cases hd with
    | int ht =>
      obtain ⟨n, rfl, rfl, hwf⟩ := DataW.trod_int ht h
      exact ⟨n, hwf, fun own hno => FzL.cons (.int _ n) rfl, fun b _ => by show 1 ≤ b.f _; rw [b.lit]; exact Nat.le_refl _⟩
    | bool ht =>
      obtain ⟨b, rfl, _⟩ := DataW.trod_bool ht h
      exact ⟨b, trivial, fun own hno => FzL.cons (.bool b) rfl, fun b _ => Nat.zero_le _⟩
    | str ht =>
      obtain ⟨s, rfl, rfl, _⟩ := DataW.trod_string ht h
      have hs : s.size ≤ reachBytes := by
        have := hw s.data.toList.length (by simp [DataW.weights])
        rw [Array.length_toList] at this
        exact this
      exact ⟨s, hs, fun own hno => FzL.cons (.str s) rfl, fun b _ => Nat.zero_le _⟩
    | sl ht hc hb he =>
      obtain ⟨xs, hx, hm, v, rfl, hv⟩ := slice_dat B ht hc (Nat.le_of_ble_eq_true hb) h hw (fun m hm _ _ h hw => part he m hm h hw)
      exact ⟨xs, hx, fun own hno => FzL.cons (hv own hno) rfl, hm⟩
    | @item _ b f0 f1 f2 ht hct hbt o0 o1 o2 c0 c1 c2 u0 u1 ub cb bb u2 =>
      obtain ⟨xs, n, rfl, rfl, hl, hxl, hf⟩ := DataW.trod_struct ht h
      have hxl : xs.length = 3 := hxl
      match xs, hxl with
      | [x0, x1, x2], _ =>
      rw [hct] at hl
      match cs, hl with
      | [v0, v1, v2], _ =>
      have g0 : DataW.trod enc P W base spare held n f0.type [v0] = some x0 := by have := hf 0 f0 rfl; rw [o0, c0] at this; exact this
      have g1 : DataW.trod enc P W base spare held n f1.type [v1] = some x1 := by have := hf 1 f1 rfl; rw [o1, c1] at this; exact this
      have g2 : DataW.trod enc P W base spare held n f2.type [v2] = some x2 := by have := hf 2 f2 rfl; rw [o2, c2] at this; exact this
      have hw' : ∀ n ∈ DataW.weightsEach P [f0.type, f1.type, f2.type] [x0.1, x1.1, x2.1], n ≤ reachBytes := by
        simp only [DataW.weights, ht] at hw
        exact hw
      have hp := weights_parts hw'
      obtain ⟨k, e0, _, wf0⟩ := DataW.trod_int u0 g0
      cases e0
      obtain ⟨bs, hbs, _, w1, e1, hv1⟩ := slice_dat B (d := .int .u8) u1 cb (by rw [bb]; exact Nat.le_refl _) g1 (hp 1 _ _ rfl rfl) (fun m hm _ _ h hw => part (.int ub) m (by omega) h hw)
      cases e1
      obtain ⟨ks, hks, _, w2, e2, hv2⟩ := slice_dat B (d := .item) u2 hct (by rw [hbt]; exact Nat.le_refl _) g2 (hp 2 _ _ rfl rfl) (fun m hm _ _ h hw => part (.item ht hct hbt o0 o1 o2 c0 c1 c2 u0 u1 ub cb bb u2) m (by omega) h hw)
      cases e2
      refine ⟨.node k bs ks, .node ?_ hbs.2 hbs.1 hks.1 hks.2, fun own hno => FzL.cons (.int .u8 k) (FzL.cons (hv1 own hno) (FzL.cons (hv2 own hno) rfl)), fun b _ => Nat.zero_le _⟩
      simp [Lit.wf, IntKind.min, IntKind.max, IntKind.signed, IntKind.bits] at wf0
      omega
    | @st3 _ f0 f1 f2 a bb c ht hct o0 o1 o2 c0 c1 c2 h0 h1 h2 =>
      obtain ⟨xs, n, rfl, rfl, hl, hxl, hf⟩ := DataW.trod_struct ht h
      have hxl : xs.length = 3 := hxl
      match xs, hxl with
      | [x0, x1, x2], _ =>
      have g0 := hf 0 f0 rfl
      have g1 := hf 1 f1 rfl
      have g2 := hf 2 f2 rfl
      rw [o0, c0] at g0
      rw [o1, c1] at g1
      rw [o2, c2] at g2
      have hw' : ∀ n ∈ DataW.weightsEach P [f0.type, f1.type, f2.type] [x0.1, x1.1, x2.1], n ≤ reachBytes := by
        simp only [DataW.weights, ht] at hw
        exact hw
      have hp := weights_parts hw'
      obtain ⟨y0, w0, k0, m0⟩ := part h0 n (by omega) g0 (hp 0 _ _ rfl rfl)
      obtain ⟨y1, w1, k1, m1⟩ := part h1 n (by omega) g1 (hp 1 _ _ rfl rfl)
      obtain ⟨y2, w2, k2, m2⟩ := part h2 n (by omega) g2 (hp 2 _ _ rfl rfl)
      refine ⟨(y0, y1, y2), ⟨w0, w1, w2⟩, fun own hno => ?_, fun b hb => ?_⟩
      rotate_left
      · refine Nat.le_trans ?_ (b.agg _)
        have q0 := m0 b hb
        have q1 := m1 b hb
        have q2 := m2 b hb
        show massD a y0 + (massD bb y1 + massD c y2) ≤ b.fs [x0.1, x1.1, x2.1]
        rw [b.cons, b.cons, b.cons, b.nil]
        omega
      have e : cs = cs.take a.size ++ ((cs.drop a.size).take bb.size ++ (cs.drop (a.size + bb.size)).take c.size) := by
        rw [hct] at hl
        have e1 : (cs.drop (a.size + bb.size)).take c.size = cs.drop (a.size + bb.size) := List.take_of_length_le (by simp; omega)
        rw [e1, ← List.drop_drop, List.take_append_drop, List.take_append_drop]
      rw [e]
      exact FzL.append (by simpa using k0 own hno) (FzL.append (k1 own hno) (k2 own hno))
    | @st _ fs _ _ ht hct hfs =>
      obtain ⟨xs, n, rfl, rfl, hl, hxl, hf⟩ := DataW.trod_struct ht h
      have hw' : ∀ n ∈ DataW.weightsEach P (fs.toList.map (·.type)) (xs.map (·.1)), n ≤ reachBytes := by
        simp only [DataW.weights, ht] at hw
        exact hw
      obtain ⟨y, h1, h2, h3⟩ := fields_dat B (n := n) (cs := cs) (fun hu => part hu n (by omega)) hfs (xs := xs) (by simpa using hxl) (fun i f hi => hf i f (by simpa using hi)) hw'
      refine ⟨y, h1, fun own hno => ?_, fun b hb => Nat.le_trans (h3 b hb) (b.agg _)⟩
      have := h2 own hno
      rw [List.drop_zero, List.take_of_length_le (by rw [hl, hct]; exact Nat.le_refl _)] at this
      exact this

/-- A parameter of data that came in. -/
theorem in_dat {t : TypeId} {d : DT} {v : Value} {D : DataW H} {ps : List MemPlace} (hd : HasD P t d) (h : DataW.Trod enc P W base spare held t v D ps) (hw : ∀ n ∈ DataW.weights P t D, n ≤ reachBytes) :
    ∃ y : d.T, WfD d y ∧ (∀ own : Nat → Prop, (∀ b, ¬ own b) → FzL W own (encD d y) v.cells.toList) ∧ Mass B d y D := by
  obtain ⟨fuel, hf⟩ := h
  exact trod_dat B fuel hd hf hw

theorem in_sl {r : Reach} {b0 : Nat} {t : TypeId} {d : DT} {v : Value} {D : DataW H} {ps : List MemPlace} (hd : HasD P t (.sl d)) (hval : Value.okWide P W r b0 t v) (h : DataW.Trod enc P W base spare held t v D ps) (hw : ∀ n ∈ DataW.weights P t D, n ≤ reachBytes) :
    ∃ y : List d.T, WfD (.sl d) y ∧ In W (.c (.fz d y none)) v ∧ Mass B (.sl d) y D := by
  obtain ⟨y, h1, h2, h3⟩ := in_dat B hd h hw
  obtain ⟨a, len, cap, rfl⟩ : ∃ a len cap, v = .slice a len cap := by
    cases hd with
    | sl ht _ _ _ => exact okWide_slice ht hval
  refine ⟨y, h1, fun h β hno => ?_, h3⟩
  have k := h2 (Own h β) hno
  simp only [Value.cells, encD, FzL] at k
  obtain ⟨u, r, e, hu, hr⟩ := k
  subst hr
  injection e with e1 e2
  subst e1
  simp only [AVRel, CVRel]
  exact hu

/-- a struct of data -/
theorem in_str {r : Reach} {b0 : Nat} {t : TypeId} {d : DT} {fs : Array Field} {v : Value} {D : DataW H} {ps : List MemPlace} (hs : P.underlying t = some (.struct fs)) (hd : HasD P t d) (hval : Value.okWide P W r b0 t v) (h : DataW.Trod enc P W base spare held t v D ps) (hw : ∀ n ∈ DataW.weights P t D, n ≤ reachBytes) :
    ∃ y : d.T, WfD d y ∧ In W (.agg (encD d y)) v ∧ Mass B d y D := by
  obtain ⟨y, h1, h2, h3⟩ := in_dat B hd h hw
  have hcs : ∃ cs, v = .agg cs := by
    simp only [Value.okWide, hs] at hval
    obtain ⟨cs, h1, _⟩ := hval
    exact ⟨cs, h1⟩
  obtain ⟨cs, rfl⟩ := hcs
  refine ⟨y, h1, fun h β hno => ?_, h3⟩
  have k := (h2 (Own h β) hno).segs
  simp only [AVRel]
  exact ⟨cs.toList, by simp, k⟩
end
end Go.Abs
