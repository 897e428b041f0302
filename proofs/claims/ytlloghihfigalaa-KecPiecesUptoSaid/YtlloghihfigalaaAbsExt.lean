/- Functions without a body. -/
import Derived.Test.YtlloghihfigalaaAbsTab
import Derived.Laws.Externs
import GoSem.Extern.MathBitsCarry
set_option linter.unusedVariables false
set_option linter.unusedSimpArgs false
namespace Go.Abs

theorem ext_ok {P : Program} {f : Nat} {fn : Func} {e : Array Value → Sem Value} {S : FSh} {F : psT S.ps → Option (rsT S.rs)} (hf : P.funcs[f]? = some fn) (hname : (fn.name == "runtime.NumGoroutine") = false) (hb : fn.body.isNone = true)
    (hn : Extern.findNext fn = none) (he : Extern.find fn = some e) (hfree : psFree S.ps = true) (hrfree : rsFree S.rs = true) (hrow : rowsIn S.rs = 0)
    (H : ∀ (us : List Value) (x : psT S.ps) (y : rsT S.rs) (w : World), us.length = S.ps.length → F x = some y → (∀ t av, (t, av) ∈ psEnc 0 S.ps x → ∃ u, us[t]? = some u ∧ ∀ h β, (∀ b, ¬ Own h β b) → AVRel h β w av u) →
      ∃ l vs, (e us.toArray).run P w = .ok (resV vs) w ∧ rsDec (fun _ => none) S.rs l = some y ∧ AVsRel (fun _ => none) (fun _ => undef) w l vs) : EntOk P f (funEnt S F) := by
  refine ⟨?_, ?_, ?_⟩
  · intro ρ d l h k
    simp only [funEnt]
    cases h d with
    | some g => rfl
    | none =>
      cases psDec h S.ps l with
      | none => rfl
      | some p =>
        obtain ⟨x, rs⟩ := p
        simp only
        cases F x <;> rfl
  · intro d l h h' δ e hs
    obtain ⟨h1, x, rs, y, h2, h3, rfl⟩ := funEnt_inv e
    refine ⟨?_, fun r hr => by rw [rsRegs_key hr]; simp⟩
    simp only [funEnt]
    rw [hs d (by simp), h1, psDec_dep h2 (fun r hr => hs r (by simp [hr]))]
    simp only [h3, Option.bind_some]
  · intro w0 fp nt β st a w o d args l δ Q hcal hdst hl R hd e'
    obtain ⟨hfree0, x, rs, y, h2, h3, rfl⟩ := funEnt_inv e'
    obtain ⟨cc, hop, hcc, rfl⟩ := calleeOf_spec hcal
    obtain ⟨callee, as, ats⟩ := cc
    simp only at hcc
    subst hcc
    have hvs := opds_rel R hl
    have hargs := fun h' β' H => psDec_rel (h' := h') (β' := β') R H (i := 0) hfree hvs h2
    have hlen : (as.toList.map a.eval).length = S.ps.length := (hargs (fun _ => none) (fun _ => undef) (by rintro b ⟨r, g, hr, _⟩; cases hr)).1
    obtain ⟨l', vs, h4, h5, h6⟩ := H (as.toList.map a.eval) x y w hlen h3 (by
      intro t av ht
      obtain ⟨j, u, h4, h5, _⟩ := (hargs (fun _ => none) (fun _ => undef) (by rintro b ⟨r, g, hr, _⟩; cases hr)).2 t av ht
      have htj : t = j := by omega
      subst htj
      refine ⟨u, h5, fun h β hno => ?_⟩
      obtain ⟨j', u', h7, h8, h9⟩ := (hargs h β hno).2 t av ht
      have : j' = t := by omega
      subst this
      rw [h5] at h8
      cases h8
      exact h9)
    have hmap : (as.toList.map a.eval).toArray = as.map a.eval := by
      apply Array.toList_inj.1
      simp
    rw [hmap] at h4
    have hexec : (execOp a.eval o).run P w = .ok (.value (resV vs)) w := by
      rw [Conc.execOp_call_func (a := a) hop, run_callFunc_extern hf hname hb hn he, h4]
      rfl
    refine wp_val hexec ?_
    rw [hdst] at hd ⊢
    have R' : Rel P w (fun _ => False) 0 (fun _ => undef) ⟨fun _ => none, fun _ => none⟩ ⟨#[], []⟩ w :=
      ⟨rfl, rfl, (fun t av h => by cases h), (fun r g h => by cases h), (fun r r' g g' b h => by cases h), (fun b hb => by obtain ⟨r, g, hr, _⟩ := hb; cases hr), rfl, rfl, rfl, Nat.le_refl _, fun _ _ _ => rfl, fun _ h => h.elim⟩
    exact ret_post R hd hfree0 R' h5 h6 hrfree (by omega)

def u64S : AS := .c (.int .u64)
abbrev S64 : FSh := ⟨[.val u64S, .val u64S, .val u64S], [.val u64S, .val u64S], []⟩

def add64F (x : Int × Int × Int) : Option (Int × Int) :=
  if x.2.2.toNat ≤ 1 then some (((x.1.toNat + x.2.1.toNat + x.2.2.toNat) % 2 ^ 64 : Nat), ((x.1.toNat + x.2.1.toNat + x.2.2.toNat) / 2 ^ 64 : Nat)) else none
def sub64F (x : Int × Int × Int) : Option (Int × Int) :=
  if x.2.2.toNat ≤ 1 then some (((x.1.toNat + 2 ^ 64 - x.2.1.toNat - x.2.2.toNat) % 2 ^ 64 : Nat), if x.1.toNat < x.2.1.toNat + x.2.2.toNat then 1 else 0) else none

theorem args3 {us : List Value} {x : Int × Int × Int} {w : World} (hlen : us.length = 3) (h : ∀ t av, (t, av) ∈ psEnc 0 S64.ps x → ∃ u, us[t]? = some u ∧ ∀ h β, (∀ b, ¬ Own h β b) → AVRel h β w av u) :
    us = [.int .u64 x.1, .int .u64 x.2.1, .int .u64 x.2.2] := by
  have noown : ∀ b, ¬ Own (fun _ => none) (fun _ => undef) b := by rintro b ⟨r, g, hr, _⟩; cases hr
  match us, hlen with
  | [u0, u1, u2], _ =>
    obtain ⟨v0, h0, r0⟩ := h 0 (.c (.int .u64 x.1)) (List.mem_cons_self)
    obtain ⟨v1, h1, r1⟩ := h 1 (.c (.int .u64 x.2.1)) (List.mem_cons_of_mem _ (List.mem_cons_self))
    obtain ⟨v2, h2, r2⟩ := h 2 (.c (.int .u64 x.2.2)) (List.mem_cons_of_mem _ (List.mem_cons_of_mem _ (List.mem_cons_self)))
    have r0 := r0 _ _ noown
    have r1 := r1 _ _ noown
    have r2 := r2 _ _ noown
    simp only [AVRel, CVRel] at r0 r1 r2
    simp at h0 h1 h2
    rw [h0, h1, h2, r0, r1, r2]

open Extern.MathBitsCarry in
theorem run_three {P : Program} {w : World} (name : String) (x y c : Int) (h : c.toNat ≤ 1) : (three name #[.int .u64 x, .int .u64 y, .int .u64 c]).run P w = .ok (x.toNat, y.toNat, c.toNat) w := by
  match c, h with
  | .ofNat 0, _ => rfl
  | .ofNat 1, _ => rfl
  | .negSucc n, _ => rfl
  | .ofNat (n + 2), h => exact absurd h (by show ¬ (n + 2 ≤ 1); omega)

/-- a row of the carries' table, by its place -/
def carryRow (i : Nat) : Option (Array Value → Sem Value) := (Extern.MathBitsCarry.rows[i]?).map (·.2)

open Extern.MathBitsCarry in
theorem add_row : ∃ e, carryRow 0 = some e ∧ ∀ (P : Program) (w : World) (x y c : Int), c.toNat ≤ 1 → (e #[.int .u64 x, .int .u64 y, .int .u64 c]).run P w =
    .ok (resV [.int .u64 ((x.toNat + y.toNat + c.toNat) % 2 ^ 64 : Nat), .int .u64 ((x.toNat + y.toNat + c.toNat) / 2 ^ 64 : Nat)]) w := by
  refine ⟨_, rfl, fun P w x y c h => ?_⟩
  rw [Sem.run_bind, run_three _ _ _ _ h]
  simp [pair, m64, resV]

open Extern.MathBitsCarry in
theorem sub_row : ∃ e, carryRow 1 = some e ∧ ∀ (P : Program) (w : World) (x y c : Int), c.toNat ≤ 1 → (e #[.int .u64 x, .int .u64 y, .int .u64 c]).run P w =
    .ok (resV [.int .u64 ((x.toNat + 2 ^ 64 - y.toNat - c.toNat) % 2 ^ 64 : Nat), .int .u64 (if x.toNat < y.toNat + c.toNat then 1 else 0)]) w := by
  refine ⟨_, rfl, fun P w x y c h => ?_⟩
  rw [Sem.run_bind, run_three _ _ _ _ h]
  simp [pair, m64, resV]
  try (split <;> rfl)

theorem carry_ok {P : Program} {f : Nat} {fn : Func} {e : Array Value → Sem Value} {F : Int × Int × Int → Option (Int × Int)} (hf : P.funcs[f]? = some fn) (hname : (fn.name == "runtime.NumGoroutine") = false) (hb : fn.body.isNone = true) (hn : Extern.findNext fn = none)
    (he : Extern.find fn = some e) (hF : ∀ x y c z, F (x, y, c) = some z → ∀ (P : Program) (w : World), (e #[.int .u64 x, .int .u64 y, .int .u64 c]).run P w = .ok (resV [.int .u64 z.1, .int .u64 z.2]) w) : EntOk P f (funEnt S64 F) := by
  refine ext_ok hf hname hb hn he rfl rfl rfl ?_
  intro us x y w hlen hF' hargs
  obtain ⟨x0, x1, x2⟩ := x
  have hus := args3 hlen hargs
  subst hus
  obtain ⟨y1, y2⟩ := y
  refine ⟨[.c (.int .u64 y1), .c (.int .u64 y2)], [.int .u64 y1, .int .u64 y2], hF _ _ _ _ hF' P w, rfl, ?_⟩
  simp only [AVsRel, AVRel, CVRel]
  exact ⟨_, _, rfl, rfl, _, _, rfl, rfl, rfl⟩

theorem add64_ok {P : Program} {f : Nat} {fn : Func} (hf : P.funcs[f]? = some fn) (hname : (fn.name == "runtime.NumGoroutine") = false) (hb : fn.body.isNone = true) (hn : Extern.findNext fn = none)
    (he : Extern.find fn = carryRow 0) : EntOk P f (funEnt S64 add64F) := by
  obtain ⟨e, h1, h2⟩ := add_row
  refine carry_ok hf hname hb hn (he.trans h1) fun x y c z hz P w => ?_
  unfold add64F at hz
  split at hz
  · rename_i hc
    cases hz
    exact h2 P w x y c hc
  · cases hz

theorem sub64_ok {P : Program} {f : Nat} {fn : Func} (hf : P.funcs[f]? = some fn) (hname : (fn.name == "runtime.NumGoroutine") = false) (hb : fn.body.isNone = true) (hn : Extern.findNext fn = none)
    (he : Extern.find fn = carryRow 1) : EntOk P f (funEnt S64 sub64F) := by
  obtain ⟨e, h1, h2⟩ := sub_row
  refine carry_ok hf hname hb hn (he.trans h1) fun x y c z hz P w => ?_
  unfold sub64F at hz
  split at hz
  · rename_i hc
    cases hz
    exact h2 P w x y c hc
  · cases hz
end Go.Abs
