/- Cuts: a piece of code told by a function over layouts; loops by their step. -/
import Derived.Test.YthihjipdkhmgkaaAbsView2L
set_option linter.unusedVariables false
set_option linter.unusedSimpArgs false
namespace Go.Abs
universe u
open Go.RowKit

/-! ### Closed layouts -/
def VS.rs : VS → List Nat
  | .env _ s => s.rs
  | .reg _ s => s.rs
def fixRs : List (Nat × CS) → List Nat
  | [] => []
  | (_, s) :: r => regsCS s ++ fixRs r
def varsRs : List VS → List Nat
  | [] => []
  | v :: r => v.rs ++ varsRs r
def VS.slot : VS → Bool
  | .env _ s => slotA s
  | .reg _ _ => true
def Lay.closed (l : Lay) : Bool := ((fixRs l.fix ++ varsRs l.vars).all fun r => memB r (keysOf l.vars)) && (l.fix.all fun p => slotC p.2) && l.vars.all VS.slot

theorem unit_nil {h : Heap} {ρ : Nat → Nat} {N : Nat → Bool} {s : CS} {c : CV} {x y : s.T} {gs : List Nat} (hu : s.unit = some y) (e : s.dec h ρ N c = some (x, gs)) : gs = [] ∧ x = y := by
  cases s <;> simp only [CS.unit] at hu <;> first | (cases hu; done) | skip
  all_goals
    cases hu
    simp only [CS.dec] at e
    split at e <;> first | (cases e; done) | skip
  all_goals first
    | (obtain ⟨_, h2⟩ := cond_some e; cases h2; exact ⟨rfl, rfl⟩)

section
variable {ρ : Nat → Nat} {N : Nat → Bool} {st : St}

theorem fixDec_mem : ∀ {l : List (Nat × CS)}, fixDec ρ N st l = true → ∀ t a, (t, a) ∈ fixEnvs l → ∃ s x c, (t, s) ∈ l ∧ st.env t = some (.c c) ∧ s.dec st.heap ρ N c = some (x, []) ∧ a = .c (s.enc x) := by
  intro l
  induction l with
  | nil => intro _ t a h; simp [fixEnvs] at h
  | cons p l ih =>
    obtain ⟨t, s⟩ := p
    intro h u a hm
    simp only [fixDec] at h
    split at h
    · rename_i x hx
      split at h
      · rename_i y hy
        obtain ⟨y, gs⟩ := y
        simp only [fixEnvs] at hm
        have rest : (u, a) ∈ fixEnvs l → ∃ s' x c, (u, s') ∈ (t, s) :: l ∧ st.env u = some (.c c) ∧ s'.dec st.heap ρ N c = some (x, []) ∧ a = .c (s'.enc x) := fun h' => by
          obtain ⟨s', x', c', h1, h2⟩ := ih h u a h'
          exact ⟨s', x', c', by simp [h1], h2⟩
        split at hm
        · rename_i z hz
          rcases List.mem_cons.1 hm with e | hm
          · cases e
            obtain ⟨rfl, rfl⟩ := unit_nil hz hy
            exact ⟨s, y, x, by simp, hx, hy, rfl⟩
          · exact rest hm
        · exact rest hm
      · cases h
    · cases h

theorem varsDec_mem : ∀ {l : List VS} {x : varsT l} {gs : List Nat}, varsDec ρ N st l = some (x, gs) →
    (∀ t a, (t, a) ∈ varsEnvs l x → ∃ s y a0 gs', VS.env t s ∈ l ∧ st.env t = some a0 ∧ s.dec st.heap ρ N a0 = some (y, gs') ∧ (∀ r ∈ gs', r ∈ gs) ∧ a = s.enc y ∧ ∀ r ∈ s.rs, r ∈ varsRs l) ∧
    (∀ r g, (r, g) ∈ varsRegs l x → ∃ s y, g = RS.enc s y ∧ r ∈ keysOf l ∧ (∀ r ∈ s.rs, r ∈ varsRs l) ∧ ((N r = true ∧ s.nil = some y) ∨ (N r = false ∧ ∃ g0 gs', st.heap (ρ r) = some g0 ∧ s.dec st.heap ρ N g0 = some (y, gs') ∧ ∀ r ∈ gs', r ∈ gs))) := by
  have one : ∀ {v : VS} {x : v.T} {gs0 gs : List Nat} {le : List (Nat × AV)} {lr : List (Nat × Reg)} {l : List VS}, v.dec ρ N st = some (x, gs0) → (∀ r ∈ gs0, r ∈ gs) →
      (∀ t a, (t, a) ∈ le → ∃ s y a0 gs', VS.env t s ∈ l ∧ st.env t = some a0 ∧ s.dec st.heap ρ N a0 = some (y, gs') ∧ (∀ r ∈ gs', r ∈ gs) ∧ a = s.enc y ∧ ∀ r ∈ s.rs, r ∈ varsRs l) →
      (∀ r g, (r, g) ∈ lr → ∃ s y, g = RS.enc s y ∧ r ∈ keysOf l ∧ (∀ r ∈ s.rs, r ∈ varsRs l) ∧ ((N r = true ∧ s.nil = some y) ∨ (N r = false ∧ ∃ g0 gs', st.heap (ρ r) = some g0 ∧ s.dec st.heap ρ N g0 = some (y, gs') ∧ ∀ r ∈ gs', r ∈ gs))) →
      (∀ t a, (t, a) ∈ v.envs x le → ∃ s y a0 gs', VS.env t s ∈ v :: l ∧ st.env t = some a0 ∧ s.dec st.heap ρ N a0 = some (y, gs') ∧ (∀ r ∈ gs', r ∈ gs) ∧ a = s.enc y ∧ ∀ r ∈ s.rs, r ∈ varsRs (v :: l)) ∧
      (∀ r g, (r, g) ∈ v.regs x lr → ∃ s y, g = RS.enc s y ∧ r ∈ keysOf (v :: l) ∧ (∀ r ∈ s.rs, r ∈ varsRs (v :: l)) ∧ ((N r = true ∧ s.nil = some y) ∨ (N r = false ∧ ∃ g0 gs', st.heap (ρ r) = some g0 ∧ s.dec st.heap ρ N g0 = some (y, gs') ∧ ∀ r ∈ gs', r ∈ gs))) := by
    intro v x gs0 gs le lr l h hg h1 h2
    have up1 : ∀ {t a}, (t, a) ∈ le → ∃ s y a0 gs', VS.env t s ∈ v :: l ∧ st.env t = some a0 ∧ s.dec st.heap ρ N a0 = some (y, gs') ∧ (∀ r ∈ gs', r ∈ gs) ∧ a = s.enc y ∧ ∀ r ∈ s.rs, r ∈ varsRs (v :: l) := fun hm => by
      obtain ⟨s, y, a0, gs', q1, q2, q3, q4, q5, q6⟩ := h1 _ _ hm
      exact ⟨s, y, a0, gs', by simp [q1], q2, q3, q4, q5, fun r hr => by simp only [varsRs, List.mem_append]; exact .inr (q6 r hr)⟩
    have up2 : ∀ {r g}, (r, g) ∈ lr → ∃ s y, g = RS.enc s y ∧ r ∈ keysOf (v :: l) ∧ (∀ r ∈ s.rs, r ∈ varsRs (v :: l)) ∧ ((N r = true ∧ s.nil = some y) ∨ (N r = false ∧ ∃ g0 gs', st.heap (ρ r) = some g0 ∧ s.dec st.heap ρ N g0 = some (y, gs') ∧ ∀ r ∈ gs', r ∈ gs)) := fun hm => by
      obtain ⟨s, y, q1, q2, q3, q4⟩ := h2 _ _ hm
      refine ⟨s, y, q1, ?_, fun r hr => by simp only [varsRs, List.mem_append]; exact .inr (q3 r hr), q4⟩
      cases v with
      | env => exact q2
      | reg => simp only [keysOf, List.mem_cons]; exact .inr q2
    cases v with
    | env t s =>
      simp only [VS.dec] at h
      refine ⟨fun u b hm => ?_, fun r g hm => up2 hm⟩
      simp only [VS.envs, List.mem_cons] at hm
      rcases hm with e | hm
      · cases e
        split at h
        · rename_i a0 ha
          exact ⟨s, x, a0, gs0, by simp, ha, h, hg, rfl, fun r hr => by simp only [varsRs, List.mem_append]; exact .inl hr⟩
        · cases h
      · exact up1 hm
    | reg t s =>
      simp only [VS.dec] at h
      refine ⟨fun u b hm => up1 hm, fun u b hm => ?_⟩
      simp only [VS.regs, List.mem_cons] at hm
      rcases hm with e | hm
      · cases e
        refine ⟨s, x, rfl, by simp [keysOf], fun r hr => by simp only [varsRs, List.mem_append]; exact .inl hr, ?_⟩
        cases hN : N t with
        | true =>
          rw [hN] at h
          simp only [cond_true] at h
          split at h
          · rename_i y hy; cases h; exact .inl ⟨rfl, hy⟩
          · cases h
        | false =>
          rw [hN] at h
          simp only [cond_false] at h
          split at h
          · rename_i g0 hg0; exact .inr ⟨rfl, g0, gs0, hg0, h, hg⟩
          · cases h
      · exact up2 hm
  intro l
  induction l with
  | nil => intro x gs _; exact ⟨fun t a h => by simp [varsEnvs] at h, fun t a h => by simp [varsRegs] at h⟩
  | cons v r ih =>
    intro x gs h
    cases r with
    | nil => exact one h (fun r hr => hr) (by simp) (by simp)
    | cons w r =>
      simp only [varsDec] at h
      split at h
      · rename_i y gs1 hy
        split at h
        · rename_i z gs2 hz
          cases h
          obtain ⟨h1, h2⟩ := ih hz
          refine one hy (fun r hr => by simp [hr]) (fun t a hm => ?_) (fun r g hm => ?_)
          · obtain ⟨s, y, a0, gs', q1, q2, q3, q4, q5⟩ := h1 t a hm
            exact ⟨s, y, a0, gs', q1, q2, q3, fun r hr => by simp [q4 r hr], q5⟩
          · obtain ⟨s, y, q1, q2, q3, q4⟩ := h2 r g hm
            refine ⟨s, y, q1, q2, q3, q4.imp id ?_⟩
            rintro ⟨q5, g0, gs', q6, q7, q8⟩
            exact ⟨q5, g0, gs', q6, q7, fun r hr => by simp [q8 r hr]⟩
        · cases h
      · cases h

theorem keysOk_spec {ks : List Nat} (h : keysOk ρ N ks = true) : (∀ q q', q ∈ ks → q' ∈ ks → N q = false → N q' = false → ρ q = ρ q' → q = q') ∧ ∀ q ∈ ks, q < hidN := by
  simp only [keysOk, Bool.and_eq_true, List.all_eq_true, nblt, Bool.not_eq_true'] at h
  exact ⟨fun q q' hq hq' hn hn' => distinct_map h.1 q q' (by simp [hq, hn]) (by simp [hq', hn']), fun q hq => h.2 q hq⟩
theorem keysKept_spec {ks : List Nat} (h : keysKept ρ N ks = true) {q : Nat} (hq : q ∈ ks) (hle : ioN ≤ q) : ρ q = q ∧ N q = false := by
  simp only [keysKept, List.all_eq_true, Bool.or_eq_true, Bool.and_eq_true, nbeq, nblt, Bool.not_eq_true'] at h
  rcases h q hq with h' | h'
  · omega
  · exact h'
end

section
variable {P : Program} {w0 : World} {fp : FP} {nt : Nat} {β : Nat → Value} {st : St} {a : Act} {w : World} {ρ : Nat → Nat} {N : Nat → Bool}

/-- What a state that is decoded tells: all of it holds in the layout's own state. -/
structure Dec (st : St) (β : Nat → Value) (w : World) (s' : St) (β' : Nat → Value) (ks gs : List Nat) (ρ : Nat → Nat) (N : Nat → Bool) : Prop where
  view : View st β s'.heap β' ρ N gs
  env : ∀ t av, s'.env t = some av → ∃ a0, st.env t = some a0 ∧ ∀ v, AVRel st.heap β w a0 v → AVRel s'.heap β' w av v
  heap : ∀ q g, s'.heap q = some g → RegRel s'.heap β' w (β' q) g
  sep : ∀ r r' g g' b, s'.heap r = some g → s'.heap r' = some g' → g.live → g'.live → blkOf (β' r) = some b → blkOf (β' r') = some b → r = r'
  own : ∀ b, OwnR s'.heap β' b → OwnR st.heap β b ∧ ∀ r ∈ gs, ∀ g, st.heap r = some g → g.live → blkOf (β r) ≠ some b
  key : ∀ q g, s'.heap q = some g → q ∈ ks
  keys : ∀ q ∈ ks, (∃ g, s'.heap q = some g) ∧ q < hidN
  inj : ∀ q q', q ∈ ks → q' ∈ ks → N q = false → N q' = false → ρ q = ρ q' → q = q'
  live : ∀ q g, s'.heap q = some g → g.live
  gone : ∀ r ∈ gs, ∀ q ∈ ks, N q = false → ρ q ≠ r

theorem Lay.decN_rel (R : Rel P w0 fp nt β st a w) {l : Lay} (hc : l.closed = true) {x : l.T} {gs : List Nat} (e : l.decN st ρ N = some (x, gs)) {β' : Nat → Value}
    (hβ : ∀ q, q < hidN → β' q = if N q = true then .slice none 0 0 else β (ρ q)) (hhid : ∀ b, Hid β' b → Own st.heap β b ∧ ∀ r ∈ gs, ∀ g, st.heap r = some g → g.live → blkOf (β r) ≠ some b) :
    Dec st β w (l.enc x) β' (keysOf l.vars) gs ρ N := by
  unfold Lay.decN at e
  obtain ⟨h1, e⟩ := cond_some e
  simp only [Bool.and_eq_true] at h1
  obtain ⟨hko, hfx⟩ := h1
  obtain ⟨hinj, hkn⟩ := keysOk_spec hko
  split at e
  · rename_i x' gs' hv
    obtain ⟨hgs, e⟩ := cond_some e
    cases e
    simp only [List.all_eq_true, Bool.not_eq_true', ← Bool.not_eq_true, memN_iff, List.mem_map, List.mem_filter, not_exists, not_and] at hgs
    obtain ⟨hE, hR⟩ := varsDec_mem hv
    simp only [Lay.closed, Bool.and_eq_true, List.all_eq_true, memB_iff] at hc
    obtain ⟨⟨hcl, hsf⟩, hsv⟩ := hc
    have hkey : ∀ q ∈ keysOf l.vars, ∃ g, (l.enc x).heap q = some g := fun q hq => by
      obtain ⟨g, hg⟩ := keysOf_reg (x := x) hq
      exact ofL_key hg
    have hgone : ∀ r ∈ gs, ∀ q ∈ keysOf l.vars, N q = false → ρ q ≠ r := fun r hr q hq hn h => hgs r hr q ⟨hq, by rw [hn]; simp⟩ h
    have hreg : ∀ q g, (l.enc x).heap q = some g → ∃ s y, g = RS.enc s y ∧ q ∈ keysOf l.vars ∧ (∀ r ∈ s.rs, r ∈ varsRs l.vars) ∧ ((N q = true ∧ s.nil = some y) ∨ (N q = false ∧ ∃ g0 gs', st.heap (ρ q) = some g0 ∧ s.dec st.heap ρ N g0 = some (y, gs') ∧ ∀ r ∈ gs', r ∈ gs)) := fun q g hg => hR q g (ofL_mem hg)
    have hlive : ∀ q g, (l.enc x).heap q = some g → g.live := fun q g hg => by
      obtain ⟨s, y, rfl, _⟩ := hreg q g hg
      exact s.enc_live y
    have hbase : ∀ q g, (l.enc x).heap q = some g → N q = false → β' q = β (ρ q) := fun q g hg hn => by
      obtain ⟨s, y, _, hq, _⟩ := hreg q g hg
      rw [hβ q (hkn q hq), if_neg (by simp [hn])]
    have hnilb : ∀ q g, (l.enc x).heap q = some g → N q = true → β' q = .slice none 0 0 := fun q g hg hn => by
      obtain ⟨s, y, _, hq, _⟩ := hreg q g hg
      rw [hβ q (hkn q hq), if_pos hn]
    have hownR : ∀ b, OwnR (l.enc x).heap β' b → OwnR st.heap β b ∧ ∀ r ∈ gs, ∀ g, st.heap r = some g → g.live → blkOf (β r) ≠ some b := by
      rintro b ⟨q, g, hg, hl, hb⟩
      obtain ⟨s, y, rfl, hq, _, hcase⟩ := hreg q g hg
      rcases hcase with ⟨hn, _⟩ | ⟨hn, g0, gs', hg0, hd, _⟩
      · rw [hnilb q _ hg hn] at hb; cases hb
      · rw [hbase q _ hg hn] at hb
        have hl0 : g0.live := by
          have := RS.dec_shape hd
          cases g0 <;> first | trivial | (cases s <;> simp [RS.enc, Shape] at this)
        refine ⟨⟨ρ q, g0, hg0, hl0, hb⟩, fun r hr g1 hg1 hl1 hb1 => ?_⟩
        exact hgone r hr q hq hn (R.sep _ _ _ _ b hg0 hg1 hl0 hl1 hb hb1)
    have V : View st β (l.enc x).heap β' ρ N gs := by
      refine ⟨fun q g hg hn => ?_, fun q g hg hn => ?_, fun b hb => ?_⟩
      · obtain ⟨s, y, rfl, hq, _, hcase⟩ := hreg q g hg
        rcases hcase with ⟨hn', _⟩ | ⟨_, g0, gs', hg0, hd, _⟩
        · rw [hn] at hn'; cases hn'
        · exact ⟨g0, hg0, RS.dec_shape hd, hbase q _ hg hn⟩
      · obtain ⟨s, y, rfl, hq, _, hcase⟩ := hreg q g hg
        rcases hcase with ⟨_, hnil⟩ | ⟨hn', _⟩
        · exact ⟨(RS.nil_rel (h' := fun _ => none) (β' := β') (w := w) hnil).1, hnilb q _ hg hn⟩
        · rw [hn] at hn'; cases hn'
      · rcases hb with hb | hb
        · exact ⟨.inl (hownR b hb).1, (hownR b hb).2⟩
        · exact hhid b hb
    refine ⟨V, fun t av ht => ?_, fun q g hg => ?_, fun r r' g g' b hr hr' hl hl' hb hb' => ?_, hownR, fun q g hg => (hreg q g hg).choose_spec.choose_spec.2.1, fun q hq => ⟨hkey q hq, hkn q hq⟩, hinj, hlive, hgone⟩
    · rcases List.mem_append.1 (ofL_mem ht) with hm | hm
      · obtain ⟨s, y, c, hs, h2, h3, rfl⟩ := fixDec_mem hfx t av hm
        refine ⟨_, h2, fun v hv => ?_⟩
        simp only [AVRel] at hv ⊢
        have hsl := hsf _ hs
        refine CS.dec_rel R V h3 (by simp) (fun q hq => hkey q (hcl q ?_)) (fun k n h => by subst h; cases hsl) (fun n h => by subst h; cases hsl) hv
        rw [List.mem_append]
        left
        clear hfx hm ht
        have : ∀ {l : List (Nat × CS)}, (t, s) ∈ l → q ∈ fixRs l := by
          intro l
          induction l with
          | nil => intro h; simp at h
          | cons p l ih =>
            intro h
            simp only [fixRs, List.mem_append]
            rcases List.mem_cons.1 h with e | h
            · cases e; exact .inl hq
            · exact .inr (ih h)
        exact this hs
      · obtain ⟨s, y, a0, gs', h1, h2, h3, h4, rfl, h6⟩ := hE t av hm
        exact ⟨a0, h2, fun v hv => AS.dec_rel R V (hsv _ h1) h3 h4 (fun q hq => hkey q (hcl q (by rw [List.mem_append]; exact .inr (h6 q hq)))) hv⟩
    · obtain ⟨s, y, rfl, hq, hrs, hcase⟩ := hreg q g hg
      rcases hcase with ⟨hn, hnil⟩ | ⟨hn, g0, gs', hg0, hd, hgs'⟩
      · rw [hnilb q _ hg hn]; exact (RS.nil_rel hnil).2.1
      · rw [hbase q _ hg hn]
        exact RS.dec_rel R V hd hgs' (fun q hq => hkey q (hcl q (by rw [List.mem_append]; exact .inr (hrs q hq)))) (R.heap _ _ hg0)
    · obtain ⟨s, y, rfl, hq, _, hcase⟩ := hreg r g hr
      obtain ⟨s', y', rfl, hq', _, hcase'⟩ := hreg r' g' hr'
      rcases hcase with ⟨hn, _⟩ | ⟨hn, g0, gs0, hg0, hd, _⟩
      · rw [hnilb r _ hr hn] at hb; cases hb
      · rcases hcase' with ⟨hn', _⟩ | ⟨hn', g0', gs0', hg0', hd', _⟩
        · rw [hnilb r' _ hr' hn'] at hb'; cases hb'
        · rw [hbase r _ hr hn] at hb
          rw [hbase r' _ hr' hn'] at hb'
          have live0 : ∀ {s : RS} {g0 : Reg} {y : s.T} {gs : List Nat}, s.dec st.heap ρ N g0 = some (y, gs) → g0.live := by
            intro s g0 y gs hd
            have := RS.dec_shape hd
            cases g0 <;> first | trivial | (cases s <;> simp [RS.enc, Shape] at this)
          exact hinj r r' hq hq' hn hn' (R.sep _ _ _ _ b hg0 hg0' (live0 hd) (live0 hd') hb hb')
  · cases e

theorem Lay.dec_rel {l : Lay} (hc : l.closed = true) {x : l.T} (e : l.dec st = some x) (R : Rel P w0 fp nt β st a w) : ∃ β', Rel P w0 fp nt β' (l.enc x) a w := by
  unfold Lay.dec at e
  dsimp only at e
  obtain ⟨hkk, e⟩ := cond_some e
  split at e
  · rename_i y gs h
    cases e
    generalize rhoOf (namesOf st l.roots []) = ρ at h hkk
    generalize nilOf (namesOf st l.roots []) = N at h hkk
    refine ⟨fun q => if hidN ≤ q then β q else if N q = true then .slice none 0 0 else β (ρ q), ?_⟩
    have hh : ∀ q, hidN ≤ q → (fun q => if hidN ≤ q then β q else if N q = true then .slice none 0 0 else β (ρ q)) q = β q := fun q hq => if_pos hq
    have D := Lay.decN_rel R hc h (β' := fun q => if hidN ≤ q then β q else if N q = true then .slice none 0 0 else β (ρ q)) (fun q hq => if_neg (by omega)) (fun b hb => by
      have hb := hb.congr hh
      exact ⟨.inr hb, fun r _ g hg hl hbb => R.apart ⟨r, g, hg, hl, hbb⟩ hb⟩)
    refine ⟨R.defers, R.size, R.small, fun t av ht => ?_, D.heap, D.sep, fun b hb => R.lo b (D.own b hb).1, R.hid, fun r hr => (hh r hr).trans (R.hb r hr), R.os, R.tape, R.output, R.grow, R.keep, fun q bv g hq hg hl => ?_, R.ancN⟩
    · obtain ⟨a0, h1, h2⟩ := D.env t av ht
      exact h2 _ (R.env t a0 h1)
    · have h2 := (D.keys q (D.key q g hg)).2
      obtain ⟨h4, h5⟩ := keysKept_spec hkk (D.key q g hg) (R.ancN q bv hq)
      obtain ⟨g', h6, h7, h8⟩ := D.view.reg q g hg h5
      have h8 : (if hidN ≤ q then β q else if N q = true then .slice none 0 0 else β (ρ q)) = β (ρ q) := h8
      show (if hidN ≤ q then β q else if N q = true then .slice none 0 0 else β (ρ q)) = bv
      rw [h8, h4]
      rw [h4] at h6
      refine R.anc q bv g' hq h6 ?_
      have := D.live q g hg
      cases g <;> cases g' <;> simp only [Shape] at h7 <;> first | trivial | (cases this)
  · cases e

end

/-! ### What a piece of code leaves -/
/-- a panic's number may be any -/
abbrev xT : AExit → Type
  | .panic _ _ => Int
  | _ => Unit
def AExit.with : (x : AExit) → xT x → AExit
  | .panic t _, n => .panic t n
  | x, _ => x
def AExit.meets : (e x : AExit) → Option (xT x)
  | e, .normal => (match e with | .normal => some () | _ => none)
  | e, .exit j => (match e with | .exit i => bif Nat.beq i j then some () else none | _ => none)
  | e, .ret => (match e with | .ret => some () | _ => none)
  | e, .panic t _ => (match e with | .panic t' n => bif Nat.beq t' t then some n else none | _ => none)
theorem AExit.meets_spec {e x : AExit} {n : xT x} (h : e.meets x = some n) : e = x.with n := by
  cases x <;> cases e <;> simp only [AExit.meets] at h <;> first | (cases h; done) | rfl | skip
  · obtain ⟨h1, h2⟩ := cond_some h
    rw [nbeq.1 h1]; rfl
  · obtain ⟨h1, h2⟩ := cond_some h
    cases h2
    rw [nbeq.1 h1]; rfl

/-- one way out: a panic's number, where it is one, and the state -/
abbrev outT1 (x : AExit × Lay) : Type := match x.1 with
  | .panic _ _ => Int × x.2.T
  | _ => x.2.T
def outDec1 (e : AExit) (st : St) : (x : AExit × Lay) → Option (outT1 x)
  | (.panic t n, l) => (match e.meets (.panic t n) with | some m => (match l.dec st with | some s => some (m, s) | none => none) | none => none)
  | (.normal, l) => (match e.meets .normal with | some _ => l.dec st | none => none)
  | (.exit i, l) => (match e.meets (.exit i) with | some _ => l.dec st | none => none)
  | (.ret, l) => (match e.meets .ret with | some _ => l.dec st | none => none)
def outEnc1 : (x : AExit × Lay) → outT1 x → AExit × St
  | (.panic t _, l), s => (.panic t s.1, l.enc s.2)
  | (.normal, l), s => (.normal, l.enc s)
  | (.exit i, l), s => (.exit i, l.enc s)
  | (.ret, l), s => (.ret, l.enc s)
theorem outDec1_spec {e : AExit} {st : St} {x : AExit × Lay} {s : outT1 x} (h : outDec1 e st x = some s) : (outEnc1 x s).1 = e ∧ ∃ y, x.2.dec st = some y ∧ (outEnc1 x s).2 = x.2.enc y := by
  obtain ⟨x, l⟩ := x
  cases x <;> simp only [outDec1] at h
  case panic t n =>
    split at h
    · rename_i m hm
      split at h
      · rename_i y hy; cases h; exact ⟨(AExit.meets_spec hm).symm, y, hy, rfl⟩
      · cases h
    · cases h
  all_goals
    split at h
    · rename_i m hm; exact ⟨(AExit.meets_spec hm).symm, s, h, rfl⟩
    · cases h

abbrev outsT : List (AExit × Lay) → Type
  | [] => Empty
  | [x] => outT1 x
  | x :: y :: r => outT1 x ⊕ outsT (y :: r)

def decOut (e : AExit) (st : St) : (outs : List (AExit × Lay)) → Option (outsT outs)
  | [] => none
  | [x] => outDec1 e st x
  | x :: y :: r => (match outDec1 e st x with | some s => some (.inl s) | none => (match decOut e st (y :: r) with | some s => some (.inr s) | none => none))

def encOut : (outs : List (AExit × Lay)) → outsT outs → AExit × St
  | [], t => nomatch t
  | [x], t => outEnc1 x t
  | x :: y :: r, t => (match t with | .inl s => outEnc1 x s | .inr s => encOut (y :: r) s)

def closedOuts : List (AExit × Lay) → Bool
  | [] => true
  | x :: r => x.2.closed && closedOuts r

section
variable {P : Program} {w0 : World} {fp : FP} {nt : Nat} {st : St} {a : Act} {w : World}
theorem Post.dec {l : Lay} (hc : l.closed = true) {x : l.T} (e : l.dec st = some x) (h : Post P w0 fp nt st a w) : Post P w0 fp nt (l.enc x) a w := by
  obtain ⟨β, R⟩ := h; exact Lay.dec_rel hc e R

theorem decOut_spec {e : AExit} : ∀ {outs : List (AExit × Lay)} {t : outsT outs}, closedOuts outs = true → decOut e st outs = some t → (encOut outs t).1 = e ∧ (Post P w0 fp nt st a w → Post P w0 fp nt (encOut outs t).2 a w) := by
  have one : ∀ {x : AExit × Lay} {s : outT1 x}, x.2.closed = true → outDec1 e st x = some s → (outEnc1 x s).1 = e ∧ (Post P w0 fp nt st a w → Post P w0 fp nt (outEnc1 x s).2 a w) := by
    intro x s hc h
    obtain ⟨h1, y, h2, h3⟩ := outDec1_spec h
    exact ⟨h1, fun hp => by rw [h3]; exact hp.dec hc h2⟩
  intro outs
  induction outs with
  | nil => intro t _ h; cases h
  | cons x r ih =>
    intro t hc h
    simp only [closedOuts, Bool.and_eq_true] at hc
    cases r with
    | nil => exact one hc.1 h
    | cons y r =>
      simp only [decOut] at h
      split at h
      · rename_i s hs; cases h; exact one hc.1 hs
      · split at h
        · rename_i s hs; cases h; exact ih hc.2 hs
        · cases h
end

def encK1 {ρ : Type} : (x : AExit × Lay) → outT1 x → (AExit → St → Option ρ) → Option ρ
  | (.panic t _, l), s, κ => κ (.panic t s.1) (l.enc s.2)
  | (.normal, l), s, κ => κ .normal (l.enc s)
  | (.exit i, l), s, κ => κ (.exit i) (l.enc s)
  | (.ret, l), s, κ => κ .ret (l.enc s)
theorem encK1_eq {ρ : Type} {κ : AExit → St → Option ρ} {x : AExit × Lay} {s : outT1 x} : encK1 x s κ = κ (outEnc1 x s).1 (outEnc1 x s).2 := by
  obtain ⟨x, l⟩ := x
  cases x <;> rfl

def encK {ρ : Type} : (outs : List (AExit × Lay)) → outsT outs → (AExit → St → Option ρ) → Option ρ
  | [], t, _ => nomatch t
  | [x], t, κ => encK1 x t κ
  | x :: y :: r, t, κ => (match t with | .inl s => encK1 x s κ | .inr s => encK (y :: r) s κ)

theorem encK_eq {ρ : Type} {κ : AExit → St → Option ρ} : ∀ {outs : List (AExit × Lay)} {t : outsT outs}, encK outs t κ = κ (encOut outs t).1 (encOut outs t).2 := by
  intro outs
  induction outs with
  | nil => intro t; exact nomatch t
  | cons x r ih =>
    intro t
    cases r with
    | nil => exact encK1_eq
    | cons y r =>
      cases t with
      | inl s => exact encK1_eq
      | inr s => exact ih

def cutEnt (l : Lay) (outs : List (AExit × Lay)) (f : l.T → Option (outsT outs)) : LEnt :=
  ⟨fun st κ => (l.dec st).bind fun s => (f s).bind fun t => encK outs t κ⟩

section
variable {P : Program} (C : Ctx P) (nt : Nat)

theorem cut_ok {l : Lay} {outs : List (AExit × Lay)} {f : l.T → Option (outsT outs)} {c : Code} {ann : Ann} (hl : l.closed = true) (ho : closedOuts outs = true) (hA : AnnOk P nt c ann)
    (heq : ∀ s, exec C.T C.E nt c ann (fun e st => decOut e st outs) (l.enc s) = f s) : LOk P nt (cutEnt l outs f) c := by
  intro ρ st κ r e w0 fp a w Q hp hq
  simp only [cutEnt] at e
  cases h1 : l.dec st with
  | none => rw [h1] at e; cases e
  | some s =>
    rw [h1] at e
    simp only [Option.bind_some] at e
    cases h2 : f s with
    | none => rw [h2] at e; cases e
    | some t =>
      rw [h2] at e
      simp only [Option.bind_some] at e
      rw [encK_eq] at e
      have h3 := heq s
      rw [h2] at h3
      refine exec_sound C nt h3 hA (hp.dec hl h1) ?_
      intro x st' a' w' h4 hp'
      obtain ⟨h5, h6⟩ := decOut_spec ho h4
      have h7 := hq _ _ a' w' e (h6 hp')
      rw [h5] at h7
      exact h7

def loopEnd {l : Lay} {outs : List (AExit × Lay)} (e : AExit) (st : St) : Option (l.T ⊕ outsT outs) :=
  match e with
  | .normal => (match l.dec st with | some s => some (.inl s) | none => none)
  | e => (match decOut e st outs with | some t => some (.inr t) | none => none)

theorem exists_least {p : Nat → Prop} (h : ∃ n, p n) : ∃ n, p n ∧ ∀ m, p m → n ≤ m := by
  obtain ⟨n, hn⟩ := h
  induction n using Nat.strongRecOn with
  | _ n ih =>
    by_cases h : ∃ m, m < n ∧ p m
    · obtain ⟨m, hm, hp⟩ := h; exact ih m hm hp
    · exact ⟨n, hn, fun m hm => by
        rcases Nat.lt_or_ge m n with h' | h'
        · exact absurd ⟨m, h', hm⟩ h
        · exact h'⟩

open Classical in
noncomputable def leastN (p : Nat → Prop) : Nat := if h : ∃ n, p n then Classical.choose (exists_least h) else 0
theorem leastN_spec {p : Nat → Prop} {n : Nat} (h : p n) : p (leastN p) ∧ leastN p ≤ n := by
  have hx : ∃ n, p n := ⟨n, h⟩
  unfold leastN
  rw [dif_pos hx]
  have := Classical.choose_spec (exists_least hx)
  exact ⟨this.1, this.2 n h⟩

theorem wp_loop_n {c : Code} {Q : Exit → Act → World → Prop} (I : Nat → Act → World → Prop) (round : ∀ n a w, I n a w → c.wp P (Exit.then (fun a' w' => ∃ m, m < n ∧ I m a' w') Q) a w)
    {n : Nat} {a : Act} {w : World} (h : I n a w) : (Code.loop c).wp P Q a w := by
  refine wp_loop (I := fun a w => ∃ n, I n a w) (μ := fun a w => leastN fun n => I n a w) ⟨n, h⟩ ?_
  rintro a w ⟨n, hn⟩
  obtain ⟨h1, h2⟩ := leastN_spec (p := fun n => I n a w) hn
  refine wp_mono (round _ a w h1) ?_
  intro e a' w' hq
  cases e with
  | normal =>
    obtain ⟨m, hm, hI⟩ := hq
    have h3 := (leastN_spec (p := fun n => I n a' w') hI).2
    exact ⟨⟨m, hI⟩, by omega⟩
  | _ => exact hq

theorem loop_ok {l : Lay} {outs : List (AExit × Lay)} {step : l.T → Option (l.T ⊕ outsT outs)} {c : Code} {ann : Ann} (hl : l.closed = true) (ho : closedOuts outs = true) (hA : AnnOk P nt c ann)
    (heq : ∀ s, exec C.T C.E nt c ann (fun e st => loopEnd e st) (l.enc s) = step s) : LOk P nt (cutEnt l outs (loopO step)) (.loop c) := by
  intro ρ st κ r e w0 fp a w Q hp hq
  simp only [cutEnt] at e
  cases h1 : l.dec st with
  | none => rw [h1] at e; cases e
  | some s =>
    rw [h1] at e
    simp only [Option.bind_some] at e
    cases h2 : loopO step s with
    | none => rw [h2] at e; cases e
    | some t =>
      rw [h2] at e
      simp only [Option.bind_some] at e
      rw [encK_eq] at e
      obtain ⟨n, hn⟩ := loopO_iff.1 h2
      refine wp_loop_n (I := fun n a w => ∃ s, iterN step n s = some t ∧ Post P w0 fp nt (l.enc s) a w) ?_ (n := n) ⟨s, hn, hp.dec hl h1⟩
      rintro n a w ⟨s, hn, hp⟩
      cases n with
      | zero => cases hn
      | succ n =>
        simp only [iterN] at hn
        have h3 := heq s
        cases hs : step s with
        | none => rw [hs] at hn; cases hn
        | some o =>
          rw [hs] at hn h3
          refine exec_sound C nt h3 hA hp ?_
          intro x st' a' w' h4 hp'
          cases x with
          | normal =>
            simp only [loopEnd] at h4
            split at h4
            · rename_i s' hs'
              cases h4
              exact ⟨n, by omega, s', hn, hp'.dec hl hs'⟩
            · cases h4
          | exit i =>
            simp only [loopEnd] at h4
            split at h4
            · rename_i t' ht'
              cases h4
              cases hn
              obtain ⟨h5, h6⟩ := decOut_spec ho ht'
              have h7 := hq _ _ a' w' e (h6 hp')
              rw [h5] at h7
              exact h7
            · cases h4
          | ret =>
            simp only [loopEnd] at h4
            split at h4
            · rename_i t' ht'
              cases h4
              cases hn
              obtain ⟨h5, h6⟩ := decOut_spec ho ht'
              have h7 := hq _ _ a' w' e (h6 hp')
              rw [h5] at h7
              exact h7
            · cases h4
          | panic q n =>
            simp only [loopEnd] at h4
            split at h4
            · rename_i t' ht'
              cases h4
              cases hn
              obtain ⟨h5, h6⟩ := decOut_spec ho ht'
              have h7 := hq _ _ a' w' e (h6 hp')
              rw [h5] at h7
              exact h7
            · cases h4
end
end Go.Abs
