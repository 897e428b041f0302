/- keccak.Permute's loops, run. Printed by tools/kperm.py. -/
import Derived.Test.YtlloghihfigalaaK3L
import Derived.Test.YtlloghihfigalaaPKitL
set_option linter.unusedVariables false
set_option maxRecDepth 100000
namespace Go.Abs
def iterO {σ τ : Type} (step : σ → Option (σ ⊕ τ)) : Nat → σ → Option τ
  | 0, _ => none
  | n + 1, s => match step s with
    | some (.inl s') => iterO step n s'
    | some (.inr t) => some t
    | none => none
theorem loop_inl {σ τ : Type} {step : σ → Option (σ ⊕ τ)} {s s' : σ} (h : step s = some (.inl s')) : loopO step s = loopO step s' := by
  rw [loopO_eq, h]
theorem loop_inr {σ τ : Type} {step : σ → Option (σ ⊕ τ)} {s : σ} {t : τ} (h : step s = some (.inr t)) : loopO step s = some t := by
  rw [loopO_eq, h]
theorem iterO_loop {σ τ : Type} {step : σ → Option (σ ⊕ τ)} : ∀ {n : Nat} {s : σ} {t : τ}, iterO step n s = some t → loopO step s = some t := by
  intro n
  induction n with
  | zero => intro s t h; cases h
  | succ n ih =>
    intro s t h
    simp only [iterO] at h
    split at h
    · rename_i s' hs; rw [loop_inl hs]; exact ih h
    · rename_i t' hs; cases h; exact loop_inr hs
    · cases h
noncomputable section
def rotI (x k : Int) : Int := bitsOr .u64 (shlI .u64 x k) (shrI .u64 x (64 - k))
def ch1 (r : Nat → Int) : Nat → Int := (upd (upd (upd (upd (upd (upd (upd (upd (upd (upd (upd (upd (upd (upd (upd (upd (upd (upd (upd (upd (upd (upd (upd (upd (upd (fun _ => 0) 0 (bitsXor .u64 0 (r 0))) 1 (bitsXor .u64 0 (r 1))) 2 (bitsXor .u64 0 (r 2))) 3 (bitsXor .u64 0 (r 3))) 4 (bitsXor .u64 0 (r 4))) 0 (bitsXor .u64 (bitsXor .u64 0 (r 0)) (r 5))) 1 (bitsXor .u64 (bitsXor .u64 0 (r 1)) (r 6))) 2 (bitsXor .u64 (bitsXor .u64 0 (r 2)) (r 7))) 3 (bitsXor .u64 (bitsXor .u64 0 (r 3)) (r 8))) 4 (bitsXor .u64 (bitsXor .u64 0 (r 4)) (r 9))) 0 (bitsXor .u64 (bitsXor .u64 (bitsXor .u64 0 (r 0)) (r 5)) (r 10))) 1 (bitsXor .u64 (bitsXor .u64 (bitsXor .u64 0 (r 1)) (r 6)) (r 11))) 2 (bitsXor .u64 (bitsXor .u64 (bitsXor .u64 0 (r 2)) (r 7)) (r 12))) 3 (bitsXor .u64 (bitsXor .u64 (bitsXor .u64 0 (r 3)) (r 8)) (r 13))) 4 (bitsXor .u64 (bitsXor .u64 (bitsXor .u64 0 (r 4)) (r 9)) (r 14))) 0 (bitsXor .u64 (bitsXor .u64 (bitsXor .u64 (bitsXor .u64 0 (r 0)) (r 5)) (r 10)) (r 15))) 1 (bitsXor .u64 (bitsXor .u64 (bitsXor .u64 (bitsXor .u64 0 (r 1)) (r 6)) (r 11)) (r 16))) 2 (bitsXor .u64 (bitsXor .u64 (bitsXor .u64 (bitsXor .u64 0 (r 2)) (r 7)) (r 12)) (r 17))) 3 (bitsXor .u64 (bitsXor .u64 (bitsXor .u64 (bitsXor .u64 0 (r 3)) (r 8)) (r 13)) (r 18))) 4 (bitsXor .u64 (bitsXor .u64 (bitsXor .u64 (bitsXor .u64 0 (r 4)) (r 9)) (r 14)) (r 19))) 0 (bitsXor .u64 (bitsXor .u64 (bitsXor .u64 (bitsXor .u64 (bitsXor .u64 0 (r 0)) (r 5)) (r 10)) (r 15)) (r 20))) 1 (bitsXor .u64 (bitsXor .u64 (bitsXor .u64 (bitsXor .u64 (bitsXor .u64 0 (r 1)) (r 6)) (r 11)) (r 16)) (r 21))) 2 (bitsXor .u64 (bitsXor .u64 (bitsXor .u64 (bitsXor .u64 (bitsXor .u64 0 (r 2)) (r 7)) (r 12)) (r 17)) (r 22))) 3 (bitsXor .u64 (bitsXor .u64 (bitsXor .u64 (bitsXor .u64 (bitsXor .u64 0 (r 3)) (r 8)) (r 13)) (r 18)) (r 23))) 4 (bitsXor .u64 (bitsXor .u64 (bitsXor .u64 (bitsXor .u64 (bitsXor .u64 0 (r 4)) (r 9)) (r 14)) (r 19)) (r 24)))
theorem loop1 (t3 t17 : Int) (r r1 r2 : Nat → Int) : loopO stepk9_1 (t3, t17, r, 0, r1, r2, (fun _ => 0)) = some (t3, t17, r1, r2, ch1 r) := iterO_loop (n := 26) (by kernel_rfl)
def ch2 (r c : Nat → Int) : Nat → Int := (upd (upd (upd (upd (upd (upd (upd (upd (upd (upd (upd (upd (upd (upd (upd (upd (upd (upd (upd (upd (upd (upd (upd (upd (upd r 0 (bitsXor .u64 (r 0) (bitsXor .u64 (c 4) (rotI (c 1) 1)))) 1 (bitsXor .u64 (r 1) (bitsXor .u64 (c 0) (rotI (c 2) 1)))) 2 (bitsXor .u64 (r 2) (bitsXor .u64 (c 1) (rotI (c 3) 1)))) 3 (bitsXor .u64 (r 3) (bitsXor .u64 (c 2) (rotI (c 4) 1)))) 4 (bitsXor .u64 (r 4) (bitsXor .u64 (c 3) (rotI (c 0) 1)))) 5 (bitsXor .u64 (r 5) (bitsXor .u64 (c 4) (rotI (c 1) 1)))) 6 (bitsXor .u64 (r 6) (bitsXor .u64 (c 0) (rotI (c 2) 1)))) 7 (bitsXor .u64 (r 7) (bitsXor .u64 (c 1) (rotI (c 3) 1)))) 8 (bitsXor .u64 (r 8) (bitsXor .u64 (c 2) (rotI (c 4) 1)))) 9 (bitsXor .u64 (r 9) (bitsXor .u64 (c 3) (rotI (c 0) 1)))) 10 (bitsXor .u64 (r 10) (bitsXor .u64 (c 4) (rotI (c 1) 1)))) 11 (bitsXor .u64 (r 11) (bitsXor .u64 (c 0) (rotI (c 2) 1)))) 12 (bitsXor .u64 (r 12) (bitsXor .u64 (c 1) (rotI (c 3) 1)))) 13 (bitsXor .u64 (r 13) (bitsXor .u64 (c 2) (rotI (c 4) 1)))) 14 (bitsXor .u64 (r 14) (bitsXor .u64 (c 3) (rotI (c 0) 1)))) 15 (bitsXor .u64 (r 15) (bitsXor .u64 (c 4) (rotI (c 1) 1)))) 16 (bitsXor .u64 (r 16) (bitsXor .u64 (c 0) (rotI (c 2) 1)))) 17 (bitsXor .u64 (r 17) (bitsXor .u64 (c 1) (rotI (c 3) 1)))) 18 (bitsXor .u64 (r 18) (bitsXor .u64 (c 2) (rotI (c 4) 1)))) 19 (bitsXor .u64 (r 19) (bitsXor .u64 (c 3) (rotI (c 0) 1)))) 20 (bitsXor .u64 (r 20) (bitsXor .u64 (c 4) (rotI (c 1) 1)))) 21 (bitsXor .u64 (r 21) (bitsXor .u64 (c 0) (rotI (c 2) 1)))) 22 (bitsXor .u64 (r 22) (bitsXor .u64 (c 1) (rotI (c 3) 1)))) 23 (bitsXor .u64 (r 23) (bitsXor .u64 (c 2) (rotI (c 4) 1)))) 24 (bitsXor .u64 (r 24) (bitsXor .u64 (c 3) (rotI (c 0) 1))))
theorem loop2 (t3 t17 : Int) (r r2 c : Nat → Int) : loopO stepk9_2 (t3, t17, 0, r, r2, c) = some (t3, t17, ch2 r c, r2) := iterO_loop (n := 26) (by kernel_rfl)
def ch3 (r : Nat → Int) : Nat → Int := (upd (upd (upd (upd (upd (upd (upd (upd (upd (upd (upd (upd (upd (upd (upd (upd (upd (upd (upd (upd (upd (upd (upd (upd r 10 (rotI (r 1) 1)) 7 (rotI (r 10) 3)) 11 (rotI (r 7) 6)) 17 (rotI (r 11) 10)) 18 (rotI (r 17) 15)) 3 (rotI (r 18) 21)) 5 (rotI (r 3) 28)) 16 (rotI (r 5) 36)) 8 (rotI (r 16) 45)) 21 (rotI (r 8) 55)) 24 (rotI (r 21) 2)) 4 (rotI (r 24) 14)) 15 (rotI (r 4) 27)) 23 (rotI (r 15) 41)) 19 (rotI (r 23) 56)) 13 (rotI (r 19) 8)) 12 (rotI (r 13) 25)) 2 (rotI (r 12) 43)) 20 (rotI (r 2) 62)) 14 (rotI (r 20) 18)) 22 (rotI (r 14) 39)) 9 (rotI (r 22) 61)) 6 (rotI (r 9) 20)) 1 (rotI (r 6) 44))
theorem loop3 (t3 t17 : Int) (r r2 : Nat → Int) : loopO stepk9_3 (t3, 1, 0, r 1, t17, 0, r, r2) = some (t3, t17, ch3 r, r2) := iterO_loop (n := 25) (by kernel_rfl)
def ch5_0 (r : Nat → Int) : Nat → Int := (upd (upd (upd (upd (upd r 0 (bitsXor .u64 (r 0) (bitsAnd .u64 (notI .u64 (r 1)) (r 2)))) 1 (bitsXor .u64 (r 1) (bitsAnd .u64 (notI .u64 (r 2)) (r 3)))) 2 (bitsXor .u64 (r 2) (bitsAnd .u64 (notI .u64 (r 3)) (r 4)))) 3 (bitsXor .u64 (r 3) (bitsAnd .u64 (notI .u64 (r 4)) (r 0)))) 4 (bitsXor .u64 (r 4) (bitsAnd .u64 (notI .u64 (r 0)) (r 1))))
theorem loop5_0 (t3 t17 : Int) (r r2 : Nat → Int) : loopO stepk9_5 (t3, 0, t17, 0, r, r2, (fun j => r (Int.toNat 0 + j))) = some (t3, 0, t17, ch5_0 r, r2) := iterO_loop (n := 6) (by kernel_rfl)
theorem step4_0 (t3 t17 : Int) (r r2 : Nat → Int) : stepk9_4 (t3, 0, t17, r, r2) = some (.inl (t3, 5, t17, ch5_0 r, r2)) := by
  have h : stepk9_4 (t3, 0, t17, r, r2) = (loopO stepk9_5 (t3, 0, t17, 0, r, r2, (fun j => r (Int.toNat 0 + j)))).bind fun z => some (.inl (z.1, (IntKind.i64.wrap (z.2.1 + 5)), z.2.2.1, z.2.2.2.1, z.2.2.2.2)) := by kernel_rfl
  rw [h, loop5_0]
  rfl
def ch5_1 (r : Nat → Int) : Nat → Int := (upd (upd (upd (upd (upd r 5 (bitsXor .u64 (r 5) (bitsAnd .u64 (notI .u64 (r 6)) (r 7)))) 6 (bitsXor .u64 (r 6) (bitsAnd .u64 (notI .u64 (r 7)) (r 8)))) 7 (bitsXor .u64 (r 7) (bitsAnd .u64 (notI .u64 (r 8)) (r 9)))) 8 (bitsXor .u64 (r 8) (bitsAnd .u64 (notI .u64 (r 9)) (r 5)))) 9 (bitsXor .u64 (r 9) (bitsAnd .u64 (notI .u64 (r 5)) (r 6))))
theorem loop5_1 (t3 t17 : Int) (r r2 : Nat → Int) : loopO stepk9_5 (t3, 5, t17, 0, r, r2, (fun j => r (Int.toNat 5 + j))) = some (t3, 5, t17, ch5_1 r, r2) := iterO_loop (n := 6) (by kernel_rfl)
theorem step4_1 (t3 t17 : Int) (r r2 : Nat → Int) : stepk9_4 (t3, 5, t17, r, r2) = some (.inl (t3, 10, t17, ch5_1 r, r2)) := by
  have h : stepk9_4 (t3, 5, t17, r, r2) = (loopO stepk9_5 (t3, 5, t17, 0, r, r2, (fun j => r (Int.toNat 5 + j)))).bind fun z => some (.inl (z.1, (IntKind.i64.wrap (z.2.1 + 5)), z.2.2.1, z.2.2.2.1, z.2.2.2.2)) := by kernel_rfl
  rw [h, loop5_1]
  rfl
def ch5_2 (r : Nat → Int) : Nat → Int := (upd (upd (upd (upd (upd r 10 (bitsXor .u64 (r 10) (bitsAnd .u64 (notI .u64 (r 11)) (r 12)))) 11 (bitsXor .u64 (r 11) (bitsAnd .u64 (notI .u64 (r 12)) (r 13)))) 12 (bitsXor .u64 (r 12) (bitsAnd .u64 (notI .u64 (r 13)) (r 14)))) 13 (bitsXor .u64 (r 13) (bitsAnd .u64 (notI .u64 (r 14)) (r 10)))) 14 (bitsXor .u64 (r 14) (bitsAnd .u64 (notI .u64 (r 10)) (r 11))))
theorem loop5_2 (t3 t17 : Int) (r r2 : Nat → Int) : loopO stepk9_5 (t3, 10, t17, 0, r, r2, (fun j => r (Int.toNat 10 + j))) = some (t3, 10, t17, ch5_2 r, r2) := iterO_loop (n := 6) (by kernel_rfl)
theorem step4_2 (t3 t17 : Int) (r r2 : Nat → Int) : stepk9_4 (t3, 10, t17, r, r2) = some (.inl (t3, 15, t17, ch5_2 r, r2)) := by
  have h : stepk9_4 (t3, 10, t17, r, r2) = (loopO stepk9_5 (t3, 10, t17, 0, r, r2, (fun j => r (Int.toNat 10 + j)))).bind fun z => some (.inl (z.1, (IntKind.i64.wrap (z.2.1 + 5)), z.2.2.1, z.2.2.2.1, z.2.2.2.2)) := by kernel_rfl
  rw [h, loop5_2]
  rfl
def ch5_3 (r : Nat → Int) : Nat → Int := (upd (upd (upd (upd (upd r 15 (bitsXor .u64 (r 15) (bitsAnd .u64 (notI .u64 (r 16)) (r 17)))) 16 (bitsXor .u64 (r 16) (bitsAnd .u64 (notI .u64 (r 17)) (r 18)))) 17 (bitsXor .u64 (r 17) (bitsAnd .u64 (notI .u64 (r 18)) (r 19)))) 18 (bitsXor .u64 (r 18) (bitsAnd .u64 (notI .u64 (r 19)) (r 15)))) 19 (bitsXor .u64 (r 19) (bitsAnd .u64 (notI .u64 (r 15)) (r 16))))
theorem loop5_3 (t3 t17 : Int) (r r2 : Nat → Int) : loopO stepk9_5 (t3, 15, t17, 0, r, r2, (fun j => r (Int.toNat 15 + j))) = some (t3, 15, t17, ch5_3 r, r2) := iterO_loop (n := 6) (by kernel_rfl)
theorem step4_3 (t3 t17 : Int) (r r2 : Nat → Int) : stepk9_4 (t3, 15, t17, r, r2) = some (.inl (t3, 20, t17, ch5_3 r, r2)) := by
  have h : stepk9_4 (t3, 15, t17, r, r2) = (loopO stepk9_5 (t3, 15, t17, 0, r, r2, (fun j => r (Int.toNat 15 + j)))).bind fun z => some (.inl (z.1, (IntKind.i64.wrap (z.2.1 + 5)), z.2.2.1, z.2.2.2.1, z.2.2.2.2)) := by kernel_rfl
  rw [h, loop5_3]
  rfl
def ch5_4 (r : Nat → Int) : Nat → Int := (upd (upd (upd (upd (upd r 20 (bitsXor .u64 (r 20) (bitsAnd .u64 (notI .u64 (r 21)) (r 22)))) 21 (bitsXor .u64 (r 21) (bitsAnd .u64 (notI .u64 (r 22)) (r 23)))) 22 (bitsXor .u64 (r 22) (bitsAnd .u64 (notI .u64 (r 23)) (r 24)))) 23 (bitsXor .u64 (r 23) (bitsAnd .u64 (notI .u64 (r 24)) (r 20)))) 24 (bitsXor .u64 (r 24) (bitsAnd .u64 (notI .u64 (r 20)) (r 21))))
theorem loop5_4 (t3 t17 : Int) (r r2 : Nat → Int) : loopO stepk9_5 (t3, 20, t17, 0, r, r2, (fun j => r (Int.toNat 20 + j))) = some (t3, 20, t17, ch5_4 r, r2) := iterO_loop (n := 6) (by kernel_rfl)
theorem step4_4 (t3 t17 : Int) (r r2 : Nat → Int) : stepk9_4 (t3, 20, t17, r, r2) = some (.inl (t3, 25, t17, ch5_4 r, r2)) := by
  have h : stepk9_4 (t3, 20, t17, r, r2) = (loopO stepk9_5 (t3, 20, t17, 0, r, r2, (fun j => r (Int.toNat 20 + j)))).bind fun z => some (.inl (z.1, (IntKind.i64.wrap (z.2.1 + 5)), z.2.2.1, z.2.2.2.1, z.2.2.2.2)) := by kernel_rfl
  rw [h, loop5_4]
  rfl
def ch4 (r : Nat → Int) : Nat → Int := ch5_4 (ch5_3 (ch5_2 (ch5_1 (ch5_0 r))))
theorem loop4 (t3 t17 : Int) (r r2 : Nat → Int) : loopO stepk9_4 (t3, 0, t17, r, r2) = some (t3, t17, ch4 r, r2) := by
  rw [loop_inl (step4_0 t3 t17 r r2), loop_inl (step4_1 ..), loop_inl (step4_2 ..), loop_inl (step4_3 ..), loop_inl (step4_4 ..)]
  exact iterO_loop (n := 1) (by kernel_rfl)
def ch6_0 (r : Nat → Int) : Nat → Int := (upd (upd (upd (upd (upd (upd (upd r 0 (bitsXor .u64 (r 0) 1)) 0 (bitsXor .u64 (bitsXor .u64 (r 0) 1) 0)) 0 (bitsXor .u64 (bitsXor .u64 (bitsXor .u64 (r 0) 1) 0) 0)) 0 (bitsXor .u64 (bitsXor .u64 (bitsXor .u64 (bitsXor .u64 (r 0) 1) 0) 0) 0)) 0 (bitsXor .u64 (bitsXor .u64 (bitsXor .u64 (bitsXor .u64 (bitsXor .u64 (r 0) 1) 0) 0) 0) 0)) 0 (bitsXor .u64 (bitsXor .u64 (bitsXor .u64 (bitsXor .u64 (bitsXor .u64 (bitsXor .u64 (r 0) 1) 0) 0) 0) 0) 0)) 0 (bitsXor .u64 (bitsXor .u64 (bitsXor .u64 (bitsXor .u64 (bitsXor .u64 (bitsXor .u64 (bitsXor .u64 (r 0) 1) 0) 0) 0) 0) 0) 0))
theorem loop6_0 (t17 : Int) (r r2 : Nat → Int) : loopO stepk9_6 (1, t17, 0, r, r2) = some (128, t17, ch6_0 r, r2) := iterO_loop (n := 8) (by kernel_rfl)
theorem step0_0 (r r2 : Nat → Int) : stepk9_0 (1, 0, r, r2) = some (.inl (128, 1, ch6_0 (ch4 (ch3 (ch2 r (ch1 r)))), r2)) := by
  have h : stepk9_0 (1, 0, r, r2) = (loopO stepk9_1 (1, 0, r, 0, r, r2, (fun _ => 0))).bind fun z => (loopO stepk9_2 (z.1, z.2.1, 0, z.2.2.1, z.2.2.2.1, z.2.2.2.2)).bind fun z => (loopO stepk9_3 (z.1, 1, 0, (z.2.2.1 1), z.2.1, 0, z.2.2.1, z.2.2.2)).bind fun z => (loopO stepk9_4 (z.1, 0, z.2.1, z.2.2.1, z.2.2.2)).bind fun z => (loopO stepk9_6 (z.1, z.2.1, 0, z.2.2.1, z.2.2.2)).bind fun z => some (.inl (z.1, (IntKind.i64.wrap (z.2.1 + 1)), z.2.2.1, z.2.2.2)) := by kernel_rfl
  rw [h, loop1]
  simp only [Option.bind_some]
  rw [loop2]
  simp only [Option.bind_some]
  rw [loop3]
  simp only [Option.bind_some]
  rw [loop4]
  simp only [Option.bind_some]
  rw [loop6_0]
  rfl
def ch6_1 (r : Nat → Int) : Nat → Int := (upd (upd (upd (upd (upd (upd (upd r 0 (bitsXor .u64 (r 0) 0)) 0 (bitsXor .u64 (bitsXor .u64 (r 0) 0) 2)) 0 (bitsXor .u64 (bitsXor .u64 (bitsXor .u64 (r 0) 0) 2) 0)) 0 (bitsXor .u64 (bitsXor .u64 (bitsXor .u64 (bitsXor .u64 (r 0) 0) 2) 0) 128)) 0 (bitsXor .u64 (bitsXor .u64 (bitsXor .u64 (bitsXor .u64 (bitsXor .u64 (r 0) 0) 2) 0) 128) 32768)) 0 (bitsXor .u64 (bitsXor .u64 (bitsXor .u64 (bitsXor .u64 (bitsXor .u64 (bitsXor .u64 (r 0) 0) 2) 0) 128) 32768) 0)) 0 (bitsXor .u64 (bitsXor .u64 (bitsXor .u64 (bitsXor .u64 (bitsXor .u64 (bitsXor .u64 (bitsXor .u64 (r 0) 0) 2) 0) 128) 32768) 0) 0))
theorem loop6_1 (t17 : Int) (r r2 : Nat → Int) : loopO stepk9_6 (128, t17, 0, r, r2) = some (216, t17, ch6_1 r, r2) := iterO_loop (n := 8) (by kernel_rfl)
theorem step0_1 (r r2 : Nat → Int) : stepk9_0 (128, 1, r, r2) = some (.inl (216, 2, ch6_1 (ch4 (ch3 (ch2 r (ch1 r)))), r2)) := by
  have h : stepk9_0 (128, 1, r, r2) = (loopO stepk9_1 (128, 1, r, 0, r, r2, (fun _ => 0))).bind fun z => (loopO stepk9_2 (z.1, z.2.1, 0, z.2.2.1, z.2.2.2.1, z.2.2.2.2)).bind fun z => (loopO stepk9_3 (z.1, 1, 0, (z.2.2.1 1), z.2.1, 0, z.2.2.1, z.2.2.2)).bind fun z => (loopO stepk9_4 (z.1, 0, z.2.1, z.2.2.1, z.2.2.2)).bind fun z => (loopO stepk9_6 (z.1, z.2.1, 0, z.2.2.1, z.2.2.2)).bind fun z => some (.inl (z.1, (IntKind.i64.wrap (z.2.1 + 1)), z.2.2.1, z.2.2.2)) := by kernel_rfl
  rw [h, loop1]
  simp only [Option.bind_some]
  rw [loop2]
  simp only [Option.bind_some]
  rw [loop3]
  simp only [Option.bind_some]
  rw [loop4]
  simp only [Option.bind_some]
  rw [loop6_1]
  rfl
def ch6_2 (r : Nat → Int) : Nat → Int := (upd (upd (upd (upd (upd (upd (upd r 0 (bitsXor .u64 (r 0) 0)) 0 (bitsXor .u64 (bitsXor .u64 (r 0) 0) 2)) 0 (bitsXor .u64 (bitsXor .u64 (bitsXor .u64 (r 0) 0) 2) 8)) 0 (bitsXor .u64 (bitsXor .u64 (bitsXor .u64 (bitsXor .u64 (r 0) 0) 2) 8) 128)) 0 (bitsXor .u64 (bitsXor .u64 (bitsXor .u64 (bitsXor .u64 (bitsXor .u64 (r 0) 0) 2) 8) 128) 32768)) 0 (bitsXor .u64 (bitsXor .u64 (bitsXor .u64 (bitsXor .u64 (bitsXor .u64 (bitsXor .u64 (r 0) 0) 2) 8) 128) 32768) 0)) 0 (bitsXor .u64 (bitsXor .u64 (bitsXor .u64 (bitsXor .u64 (bitsXor .u64 (bitsXor .u64 (bitsXor .u64 (r 0) 0) 2) 8) 128) 32768) 0) 9223372036854775808))
theorem loop6_2 (t17 : Int) (r r2 : Nat → Int) : loopO stepk9_6 (216, t17, 0, r, r2) = some (26, t17, ch6_2 r, r2) := iterO_loop (n := 8) (by kernel_rfl)
theorem step0_2 (r r2 : Nat → Int) : stepk9_0 (216, 2, r, r2) = some (.inl (26, 3, ch6_2 (ch4 (ch3 (ch2 r (ch1 r)))), r2)) := by
  have h : stepk9_0 (216, 2, r, r2) = (loopO stepk9_1 (216, 2, r, 0, r, r2, (fun _ => 0))).bind fun z => (loopO stepk9_2 (z.1, z.2.1, 0, z.2.2.1, z.2.2.2.1, z.2.2.2.2)).bind fun z => (loopO stepk9_3 (z.1, 1, 0, (z.2.2.1 1), z.2.1, 0, z.2.2.1, z.2.2.2)).bind fun z => (loopO stepk9_4 (z.1, 0, z.2.1, z.2.2.1, z.2.2.2)).bind fun z => (loopO stepk9_6 (z.1, z.2.1, 0, z.2.2.1, z.2.2.2)).bind fun z => some (.inl (z.1, (IntKind.i64.wrap (z.2.1 + 1)), z.2.2.1, z.2.2.2)) := by kernel_rfl
  rw [h, loop1]
  simp only [Option.bind_some]
  rw [loop2]
  simp only [Option.bind_some]
  rw [loop3]
  simp only [Option.bind_some]
  rw [loop4]
  simp only [Option.bind_some]
  rw [loop6_2]
  rfl
def ch6_3 (r : Nat → Int) : Nat → Int := (upd (upd (upd (upd (upd (upd (upd r 0 (bitsXor .u64 (r 0) 0)) 0 (bitsXor .u64 (bitsXor .u64 (r 0) 0) 0)) 0 (bitsXor .u64 (bitsXor .u64 (bitsXor .u64 (r 0) 0) 0) 0)) 0 (bitsXor .u64 (bitsXor .u64 (bitsXor .u64 (bitsXor .u64 (r 0) 0) 0) 0) 0)) 0 (bitsXor .u64 (bitsXor .u64 (bitsXor .u64 (bitsXor .u64 (bitsXor .u64 (r 0) 0) 0) 0) 0) 32768)) 0 (bitsXor .u64 (bitsXor .u64 (bitsXor .u64 (bitsXor .u64 (bitsXor .u64 (bitsXor .u64 (r 0) 0) 0) 0) 0) 32768) 2147483648)) 0 (bitsXor .u64 (bitsXor .u64 (bitsXor .u64 (bitsXor .u64 (bitsXor .u64 (bitsXor .u64 (bitsXor .u64 (r 0) 0) 0) 0) 0) 32768) 2147483648) 9223372036854775808))
theorem loop6_3 (t17 : Int) (r r2 : Nat → Int) : loopO stepk9_6 (26, t17, 0, r, r2) = some (223, t17, ch6_3 r, r2) := iterO_loop (n := 8) (by kernel_rfl)
theorem step0_3 (r r2 : Nat → Int) : stepk9_0 (26, 3, r, r2) = some (.inl (223, 4, ch6_3 (ch4 (ch3 (ch2 r (ch1 r)))), r2)) := by
  have h : stepk9_0 (26, 3, r, r2) = (loopO stepk9_1 (26, 3, r, 0, r, r2, (fun _ => 0))).bind fun z => (loopO stepk9_2 (z.1, z.2.1, 0, z.2.2.1, z.2.2.2.1, z.2.2.2.2)).bind fun z => (loopO stepk9_3 (z.1, 1, 0, (z.2.2.1 1), z.2.1, 0, z.2.2.1, z.2.2.2)).bind fun z => (loopO stepk9_4 (z.1, 0, z.2.1, z.2.2.1, z.2.2.2)).bind fun z => (loopO stepk9_6 (z.1, z.2.1, 0, z.2.2.1, z.2.2.2)).bind fun z => some (.inl (z.1, (IntKind.i64.wrap (z.2.1 + 1)), z.2.2.1, z.2.2.2)) := by kernel_rfl
  rw [h, loop1]
  simp only [Option.bind_some]
  rw [loop2]
  simp only [Option.bind_some]
  rw [loop3]
  simp only [Option.bind_some]
  rw [loop4]
  simp only [Option.bind_some]
  rw [loop6_3]
  rfl
def ch6_4 (r : Nat → Int) : Nat → Int := (upd (upd (upd (upd (upd (upd (upd r 0 (bitsXor .u64 (r 0) 1)) 0 (bitsXor .u64 (bitsXor .u64 (r 0) 1) 2)) 0 (bitsXor .u64 (bitsXor .u64 (bitsXor .u64 (r 0) 1) 2) 8)) 0 (bitsXor .u64 (bitsXor .u64 (bitsXor .u64 (bitsXor .u64 (r 0) 1) 2) 8) 128)) 0 (bitsXor .u64 (bitsXor .u64 (bitsXor .u64 (bitsXor .u64 (bitsXor .u64 (r 0) 1) 2) 8) 128) 32768)) 0 (bitsXor .u64 (bitsXor .u64 (bitsXor .u64 (bitsXor .u64 (bitsXor .u64 (bitsXor .u64 (r 0) 1) 2) 8) 128) 32768) 0)) 0 (bitsXor .u64 (bitsXor .u64 (bitsXor .u64 (bitsXor .u64 (bitsXor .u64 (bitsXor .u64 (bitsXor .u64 (r 0) 1) 2) 8) 128) 32768) 0) 0))
theorem loop6_4 (t17 : Int) (r r2 : Nat → Int) : loopO stepk9_6 (223, t17, 0, r, r2) = some (9, t17, ch6_4 r, r2) := iterO_loop (n := 8) (by kernel_rfl)
theorem step0_4 (r r2 : Nat → Int) : stepk9_0 (223, 4, r, r2) = some (.inl (9, 5, ch6_4 (ch4 (ch3 (ch2 r (ch1 r)))), r2)) := by
  have h : stepk9_0 (223, 4, r, r2) = (loopO stepk9_1 (223, 4, r, 0, r, r2, (fun _ => 0))).bind fun z => (loopO stepk9_2 (z.1, z.2.1, 0, z.2.2.1, z.2.2.2.1, z.2.2.2.2)).bind fun z => (loopO stepk9_3 (z.1, 1, 0, (z.2.2.1 1), z.2.1, 0, z.2.2.1, z.2.2.2)).bind fun z => (loopO stepk9_4 (z.1, 0, z.2.1, z.2.2.1, z.2.2.2)).bind fun z => (loopO stepk9_6 (z.1, z.2.1, 0, z.2.2.1, z.2.2.2)).bind fun z => some (.inl (z.1, (IntKind.i64.wrap (z.2.1 + 1)), z.2.2.1, z.2.2.2)) := by kernel_rfl
  rw [h, loop1]
  simp only [Option.bind_some]
  rw [loop2]
  simp only [Option.bind_some]
  rw [loop3]
  simp only [Option.bind_some]
  rw [loop4]
  simp only [Option.bind_some]
  rw [loop6_4]
  rfl
def ch6_5 (r : Nat → Int) : Nat → Int := (upd (upd (upd (upd (upd (upd (upd r 0 (bitsXor .u64 (r 0) 1)) 0 (bitsXor .u64 (bitsXor .u64 (r 0) 1) 0)) 0 (bitsXor .u64 (bitsXor .u64 (bitsXor .u64 (r 0) 1) 0) 0)) 0 (bitsXor .u64 (bitsXor .u64 (bitsXor .u64 (bitsXor .u64 (r 0) 1) 0) 0) 0)) 0 (bitsXor .u64 (bitsXor .u64 (bitsXor .u64 (bitsXor .u64 (bitsXor .u64 (r 0) 1) 0) 0) 0) 0)) 0 (bitsXor .u64 (bitsXor .u64 (bitsXor .u64 (bitsXor .u64 (bitsXor .u64 (bitsXor .u64 (r 0) 1) 0) 0) 0) 0) 2147483648)) 0 (bitsXor .u64 (bitsXor .u64 (bitsXor .u64 (bitsXor .u64 (bitsXor .u64 (bitsXor .u64 (bitsXor .u64 (r 0) 1) 0) 0) 0) 0) 2147483648) 0))
theorem loop6_5 (t17 : Int) (r r2 : Nat → Int) : loopO stepk9_6 (9, t17, 0, r, r2) = some (53, t17, ch6_5 r, r2) := iterO_loop (n := 8) (by kernel_rfl)
theorem step0_5 (r r2 : Nat → Int) : stepk9_0 (9, 5, r, r2) = some (.inl (53, 6, ch6_5 (ch4 (ch3 (ch2 r (ch1 r)))), r2)) := by
  have h : stepk9_0 (9, 5, r, r2) = (loopO stepk9_1 (9, 5, r, 0, r, r2, (fun _ => 0))).bind fun z => (loopO stepk9_2 (z.1, z.2.1, 0, z.2.2.1, z.2.2.2.1, z.2.2.2.2)).bind fun z => (loopO stepk9_3 (z.1, 1, 0, (z.2.2.1 1), z.2.1, 0, z.2.2.1, z.2.2.2)).bind fun z => (loopO stepk9_4 (z.1, 0, z.2.1, z.2.2.1, z.2.2.2)).bind fun z => (loopO stepk9_6 (z.1, z.2.1, 0, z.2.2.1, z.2.2.2)).bind fun z => some (.inl (z.1, (IntKind.i64.wrap (z.2.1 + 1)), z.2.2.1, z.2.2.2)) := by kernel_rfl
  rw [h, loop1]
  simp only [Option.bind_some]
  rw [loop2]
  simp only [Option.bind_some]
  rw [loop3]
  simp only [Option.bind_some]
  rw [loop4]
  simp only [Option.bind_some]
  rw [loop6_5]
  rfl
def ch6_6 (r : Nat → Int) : Nat → Int := (upd (upd (upd (upd (upd (upd (upd r 0 (bitsXor .u64 (r 0) 1)) 0 (bitsXor .u64 (bitsXor .u64 (r 0) 1) 0)) 0 (bitsXor .u64 (bitsXor .u64 (bitsXor .u64 (r 0) 1) 0) 0)) 0 (bitsXor .u64 (bitsXor .u64 (bitsXor .u64 (bitsXor .u64 (r 0) 1) 0) 0) 128)) 0 (bitsXor .u64 (bitsXor .u64 (bitsXor .u64 (bitsXor .u64 (bitsXor .u64 (r 0) 1) 0) 0) 128) 32768)) 0 (bitsXor .u64 (bitsXor .u64 (bitsXor .u64 (bitsXor .u64 (bitsXor .u64 (bitsXor .u64 (r 0) 1) 0) 0) 128) 32768) 2147483648)) 0 (bitsXor .u64 (bitsXor .u64 (bitsXor .u64 (bitsXor .u64 (bitsXor .u64 (bitsXor .u64 (bitsXor .u64 (r 0) 1) 0) 0) 128) 32768) 2147483648) 9223372036854775808))
theorem loop6_6 (t17 : Int) (r r2 : Nat → Int) : loopO stepk9_6 (53, t17, 0, r, r2) = some (79, t17, ch6_6 r, r2) := iterO_loop (n := 8) (by kernel_rfl)
theorem step0_6 (r r2 : Nat → Int) : stepk9_0 (53, 6, r, r2) = some (.inl (79, 7, ch6_6 (ch4 (ch3 (ch2 r (ch1 r)))), r2)) := by
  have h : stepk9_0 (53, 6, r, r2) = (loopO stepk9_1 (53, 6, r, 0, r, r2, (fun _ => 0))).bind fun z => (loopO stepk9_2 (z.1, z.2.1, 0, z.2.2.1, z.2.2.2.1, z.2.2.2.2)).bind fun z => (loopO stepk9_3 (z.1, 1, 0, (z.2.2.1 1), z.2.1, 0, z.2.2.1, z.2.2.2)).bind fun z => (loopO stepk9_4 (z.1, 0, z.2.1, z.2.2.1, z.2.2.2)).bind fun z => (loopO stepk9_6 (z.1, z.2.1, 0, z.2.2.1, z.2.2.2)).bind fun z => some (.inl (z.1, (IntKind.i64.wrap (z.2.1 + 1)), z.2.2.1, z.2.2.2)) := by kernel_rfl
  rw [h, loop1]
  simp only [Option.bind_some]
  rw [loop2]
  simp only [Option.bind_some]
  rw [loop3]
  simp only [Option.bind_some]
  rw [loop4]
  simp only [Option.bind_some]
  rw [loop6_6]
  rfl
def ch6_7 (r : Nat → Int) : Nat → Int := (upd (upd (upd (upd (upd (upd (upd r 0 (bitsXor .u64 (r 0) 1)) 0 (bitsXor .u64 (bitsXor .u64 (r 0) 1) 0)) 0 (bitsXor .u64 (bitsXor .u64 (bitsXor .u64 (r 0) 1) 0) 8)) 0 (bitsXor .u64 (bitsXor .u64 (bitsXor .u64 (bitsXor .u64 (r 0) 1) 0) 8) 0)) 0 (bitsXor .u64 (bitsXor .u64 (bitsXor .u64 (bitsXor .u64 (bitsXor .u64 (r 0) 1) 0) 8) 0) 32768)) 0 (bitsXor .u64 (bitsXor .u64 (bitsXor .u64 (bitsXor .u64 (bitsXor .u64 (bitsXor .u64 (r 0) 1) 0) 8) 0) 32768) 0)) 0 (bitsXor .u64 (bitsXor .u64 (bitsXor .u64 (bitsXor .u64 (bitsXor .u64 (bitsXor .u64 (bitsXor .u64 (r 0) 1) 0) 8) 0) 32768) 0) 9223372036854775808))
theorem loop6_7 (t17 : Int) (r r2 : Nat → Int) : loopO stepk9_6 (79, t17, 0, r, r2) = some (202, t17, ch6_7 r, r2) := iterO_loop (n := 8) (by kernel_rfl)
theorem step0_7 (r r2 : Nat → Int) : stepk9_0 (79, 7, r, r2) = some (.inl (202, 8, ch6_7 (ch4 (ch3 (ch2 r (ch1 r)))), r2)) := by
  have h : stepk9_0 (79, 7, r, r2) = (loopO stepk9_1 (79, 7, r, 0, r, r2, (fun _ => 0))).bind fun z => (loopO stepk9_2 (z.1, z.2.1, 0, z.2.2.1, z.2.2.2.1, z.2.2.2.2)).bind fun z => (loopO stepk9_3 (z.1, 1, 0, (z.2.2.1 1), z.2.1, 0, z.2.2.1, z.2.2.2)).bind fun z => (loopO stepk9_4 (z.1, 0, z.2.1, z.2.2.1, z.2.2.2)).bind fun z => (loopO stepk9_6 (z.1, z.2.1, 0, z.2.2.1, z.2.2.2)).bind fun z => some (.inl (z.1, (IntKind.i64.wrap (z.2.1 + 1)), z.2.2.1, z.2.2.2)) := by kernel_rfl
  rw [h, loop1]
  simp only [Option.bind_some]
  rw [loop2]
  simp only [Option.bind_some]
  rw [loop3]
  simp only [Option.bind_some]
  rw [loop4]
  simp only [Option.bind_some]
  rw [loop6_7]
  rfl
def ch6_8 (r : Nat → Int) : Nat → Int := (upd (upd (upd (upd (upd (upd (upd r 0 (bitsXor .u64 (r 0) 0)) 0 (bitsXor .u64 (bitsXor .u64 (r 0) 0) 2)) 0 (bitsXor .u64 (bitsXor .u64 (bitsXor .u64 (r 0) 0) 2) 8)) 0 (bitsXor .u64 (bitsXor .u64 (bitsXor .u64 (bitsXor .u64 (r 0) 0) 2) 8) 128)) 0 (bitsXor .u64 (bitsXor .u64 (bitsXor .u64 (bitsXor .u64 (bitsXor .u64 (r 0) 0) 2) 8) 128) 0)) 0 (bitsXor .u64 (bitsXor .u64 (bitsXor .u64 (bitsXor .u64 (bitsXor .u64 (bitsXor .u64 (r 0) 0) 2) 8) 128) 0) 0)) 0 (bitsXor .u64 (bitsXor .u64 (bitsXor .u64 (bitsXor .u64 (bitsXor .u64 (bitsXor .u64 (bitsXor .u64 (r 0) 0) 2) 8) 128) 0) 0) 0))
theorem loop6_8 (t17 : Int) (r r2 : Nat → Int) : loopO stepk9_6 (202, t17, 0, r, r2) = some (112, t17, ch6_8 r, r2) := iterO_loop (n := 8) (by kernel_rfl)
theorem step0_8 (r r2 : Nat → Int) : stepk9_0 (202, 8, r, r2) = some (.inl (112, 9, ch6_8 (ch4 (ch3 (ch2 r (ch1 r)))), r2)) := by
  have h : stepk9_0 (202, 8, r, r2) = (loopO stepk9_1 (202, 8, r, 0, r, r2, (fun _ => 0))).bind fun z => (loopO stepk9_2 (z.1, z.2.1, 0, z.2.2.1, z.2.2.2.1, z.2.2.2.2)).bind fun z => (loopO stepk9_3 (z.1, 1, 0, (z.2.2.1 1), z.2.1, 0, z.2.2.1, z.2.2.2)).bind fun z => (loopO stepk9_4 (z.1, 0, z.2.1, z.2.2.1, z.2.2.2)).bind fun z => (loopO stepk9_6 (z.1, z.2.1, 0, z.2.2.1, z.2.2.2)).bind fun z => some (.inl (z.1, (IntKind.i64.wrap (z.2.1 + 1)), z.2.2.1, z.2.2.2)) := by kernel_rfl
  rw [h, loop1]
  simp only [Option.bind_some]
  rw [loop2]
  simp only [Option.bind_some]
  rw [loop3]
  simp only [Option.bind_some]
  rw [loop4]
  simp only [Option.bind_some]
  rw [loop6_8]
  rfl
def ch6_9 (r : Nat → Int) : Nat → Int := (upd (upd (upd (upd (upd (upd (upd r 0 (bitsXor .u64 (r 0) 0)) 0 (bitsXor .u64 (bitsXor .u64 (r 0) 0) 0)) 0 (bitsXor .u64 (bitsXor .u64 (bitsXor .u64 (r 0) 0) 0) 8)) 0 (bitsXor .u64 (bitsXor .u64 (bitsXor .u64 (bitsXor .u64 (r 0) 0) 0) 8) 128)) 0 (bitsXor .u64 (bitsXor .u64 (bitsXor .u64 (bitsXor .u64 (bitsXor .u64 (r 0) 0) 0) 8) 128) 0)) 0 (bitsXor .u64 (bitsXor .u64 (bitsXor .u64 (bitsXor .u64 (bitsXor .u64 (bitsXor .u64 (r 0) 0) 0) 8) 128) 0) 0)) 0 (bitsXor .u64 (bitsXor .u64 (bitsXor .u64 (bitsXor .u64 (bitsXor .u64 (bitsXor .u64 (bitsXor .u64 (r 0) 0) 0) 8) 128) 0) 0) 0))
theorem loop6_9 (t17 : Int) (r r2 : Nat → Int) : loopO stepk9_6 (112, t17, 0, r, r2) = some (65, t17, ch6_9 r, r2) := iterO_loop (n := 8) (by kernel_rfl)
theorem step0_9 (r r2 : Nat → Int) : stepk9_0 (112, 9, r, r2) = some (.inl (65, 10, ch6_9 (ch4 (ch3 (ch2 r (ch1 r)))), r2)) := by
  have h : stepk9_0 (112, 9, r, r2) = (loopO stepk9_1 (112, 9, r, 0, r, r2, (fun _ => 0))).bind fun z => (loopO stepk9_2 (z.1, z.2.1, 0, z.2.2.1, z.2.2.2.1, z.2.2.2.2)).bind fun z => (loopO stepk9_3 (z.1, 1, 0, (z.2.2.1 1), z.2.1, 0, z.2.2.1, z.2.2.2)).bind fun z => (loopO stepk9_4 (z.1, 0, z.2.1, z.2.2.1, z.2.2.2)).bind fun z => (loopO stepk9_6 (z.1, z.2.1, 0, z.2.2.1, z.2.2.2)).bind fun z => some (.inl (z.1, (IntKind.i64.wrap (z.2.1 + 1)), z.2.2.1, z.2.2.2)) := by kernel_rfl
  rw [h, loop1]
  simp only [Option.bind_some]
  rw [loop2]
  simp only [Option.bind_some]
  rw [loop3]
  simp only [Option.bind_some]
  rw [loop4]
  simp only [Option.bind_some]
  rw [loop6_9]
  rfl
def ch6_10 (r : Nat → Int) : Nat → Int := (upd (upd (upd (upd (upd (upd (upd r 0 (bitsXor .u64 (r 0) 1)) 0 (bitsXor .u64 (bitsXor .u64 (r 0) 1) 0)) 0 (bitsXor .u64 (bitsXor .u64 (bitsXor .u64 (r 0) 1) 0) 8)) 0 (bitsXor .u64 (bitsXor .u64 (bitsXor .u64 (bitsXor .u64 (r 0) 1) 0) 8) 0)) 0 (bitsXor .u64 (bitsXor .u64 (bitsXor .u64 (bitsXor .u64 (bitsXor .u64 (r 0) 1) 0) 8) 0) 32768)) 0 (bitsXor .u64 (bitsXor .u64 (bitsXor .u64 (bitsXor .u64 (bitsXor .u64 (bitsXor .u64 (r 0) 1) 0) 8) 0) 32768) 2147483648)) 0 (bitsXor .u64 (bitsXor .u64 (bitsXor .u64 (bitsXor .u64 (bitsXor .u64 (bitsXor .u64 (bitsXor .u64 (r 0) 1) 0) 8) 0) 32768) 2147483648) 0))
theorem loop6_10 (t17 : Int) (r r2 : Nat → Int) : loopO stepk9_6 (65, t17, 0, r, r2) = some (236, t17, ch6_10 r, r2) := iterO_loop (n := 8) (by kernel_rfl)
theorem step0_10 (r r2 : Nat → Int) : stepk9_0 (65, 10, r, r2) = some (.inl (236, 11, ch6_10 (ch4 (ch3 (ch2 r (ch1 r)))), r2)) := by
  have h : stepk9_0 (65, 10, r, r2) = (loopO stepk9_1 (65, 10, r, 0, r, r2, (fun _ => 0))).bind fun z => (loopO stepk9_2 (z.1, z.2.1, 0, z.2.2.1, z.2.2.2.1, z.2.2.2.2)).bind fun z => (loopO stepk9_3 (z.1, 1, 0, (z.2.2.1 1), z.2.1, 0, z.2.2.1, z.2.2.2)).bind fun z => (loopO stepk9_4 (z.1, 0, z.2.1, z.2.2.1, z.2.2.2)).bind fun z => (loopO stepk9_6 (z.1, z.2.1, 0, z.2.2.1, z.2.2.2)).bind fun z => some (.inl (z.1, (IntKind.i64.wrap (z.2.1 + 1)), z.2.2.1, z.2.2.2)) := by kernel_rfl
  rw [h, loop1]
  simp only [Option.bind_some]
  rw [loop2]
  simp only [Option.bind_some]
  rw [loop3]
  simp only [Option.bind_some]
  rw [loop4]
  simp only [Option.bind_some]
  rw [loop6_10]
  rfl
def ch6_11 (r : Nat → Int) : Nat → Int := (upd (upd (upd (upd (upd (upd (upd r 0 (bitsXor .u64 (r 0) 0)) 0 (bitsXor .u64 (bitsXor .u64 (r 0) 0) 2)) 0 (bitsXor .u64 (bitsXor .u64 (bitsXor .u64 (r 0) 0) 2) 8)) 0 (bitsXor .u64 (bitsXor .u64 (bitsXor .u64 (bitsXor .u64 (r 0) 0) 2) 8) 0)) 0 (bitsXor .u64 (bitsXor .u64 (bitsXor .u64 (bitsXor .u64 (bitsXor .u64 (r 0) 0) 2) 8) 0) 0)) 0 (bitsXor .u64 (bitsXor .u64 (bitsXor .u64 (bitsXor .u64 (bitsXor .u64 (bitsXor .u64 (r 0) 0) 2) 8) 0) 0) 2147483648)) 0 (bitsXor .u64 (bitsXor .u64 (bitsXor .u64 (bitsXor .u64 (bitsXor .u64 (bitsXor .u64 (bitsXor .u64 (r 0) 0) 2) 8) 0) 0) 2147483648) 0))
theorem loop6_11 (t17 : Int) (r r2 : Nat → Int) : loopO stepk9_6 (236, t17, 0, r, r2) = some (213, t17, ch6_11 r, r2) := iterO_loop (n := 8) (by kernel_rfl)
theorem step0_11 (r r2 : Nat → Int) : stepk9_0 (236, 11, r, r2) = some (.inl (213, 12, ch6_11 (ch4 (ch3 (ch2 r (ch1 r)))), r2)) := by
  have h : stepk9_0 (236, 11, r, r2) = (loopO stepk9_1 (236, 11, r, 0, r, r2, (fun _ => 0))).bind fun z => (loopO stepk9_2 (z.1, z.2.1, 0, z.2.2.1, z.2.2.2.1, z.2.2.2.2)).bind fun z => (loopO stepk9_3 (z.1, 1, 0, (z.2.2.1 1), z.2.1, 0, z.2.2.1, z.2.2.2)).bind fun z => (loopO stepk9_4 (z.1, 0, z.2.1, z.2.2.1, z.2.2.2)).bind fun z => (loopO stepk9_6 (z.1, z.2.1, 0, z.2.2.1, z.2.2.2)).bind fun z => some (.inl (z.1, (IntKind.i64.wrap (z.2.1 + 1)), z.2.2.1, z.2.2.2)) := by kernel_rfl
  rw [h, loop1]
  simp only [Option.bind_some]
  rw [loop2]
  simp only [Option.bind_some]
  rw [loop3]
  simp only [Option.bind_some]
  rw [loop4]
  simp only [Option.bind_some]
  rw [loop6_11]
  rfl
def ch6_12 (r : Nat → Int) : Nat → Int := (upd (upd (upd (upd (upd (upd (upd r 0 (bitsXor .u64 (r 0) 1)) 0 (bitsXor .u64 (bitsXor .u64 (r 0) 1) 2)) 0 (bitsXor .u64 (bitsXor .u64 (bitsXor .u64 (r 0) 1) 2) 8)) 0 (bitsXor .u64 (bitsXor .u64 (bitsXor .u64 (bitsXor .u64 (r 0) 1) 2) 8) 128)) 0 (bitsXor .u64 (bitsXor .u64 (bitsXor .u64 (bitsXor .u64 (bitsXor .u64 (r 0) 1) 2) 8) 128) 32768)) 0 (bitsXor .u64 (bitsXor .u64 (bitsXor .u64 (bitsXor .u64 (bitsXor .u64 (bitsXor .u64 (r 0) 1) 2) 8) 128) 32768) 2147483648)) 0 (bitsXor .u64 (bitsXor .u64 (bitsXor .u64 (bitsXor .u64 (bitsXor .u64 (bitsXor .u64 (bitsXor .u64 (r 0) 1) 2) 8) 128) 32768) 2147483648) 0))
theorem loop6_12 (t17 : Int) (r r2 : Nat → Int) : loopO stepk9_6 (213, t17, 0, r, r2) = some (205, t17, ch6_12 r, r2) := iterO_loop (n := 8) (by kernel_rfl)
theorem step0_12 (r r2 : Nat → Int) : stepk9_0 (213, 12, r, r2) = some (.inl (205, 13, ch6_12 (ch4 (ch3 (ch2 r (ch1 r)))), r2)) := by
  have h : stepk9_0 (213, 12, r, r2) = (loopO stepk9_1 (213, 12, r, 0, r, r2, (fun _ => 0))).bind fun z => (loopO stepk9_2 (z.1, z.2.1, 0, z.2.2.1, z.2.2.2.1, z.2.2.2.2)).bind fun z => (loopO stepk9_3 (z.1, 1, 0, (z.2.2.1 1), z.2.1, 0, z.2.2.1, z.2.2.2)).bind fun z => (loopO stepk9_4 (z.1, 0, z.2.1, z.2.2.1, z.2.2.2)).bind fun z => (loopO stepk9_6 (z.1, z.2.1, 0, z.2.2.1, z.2.2.2)).bind fun z => some (.inl (z.1, (IntKind.i64.wrap (z.2.1 + 1)), z.2.2.1, z.2.2.2)) := by kernel_rfl
  rw [h, loop1]
  simp only [Option.bind_some]
  rw [loop2]
  simp only [Option.bind_some]
  rw [loop3]
  simp only [Option.bind_some]
  rw [loop4]
  simp only [Option.bind_some]
  rw [loop6_12]
  rfl
def ch6_13 (r : Nat → Int) : Nat → Int := (upd (upd (upd (upd (upd (upd (upd r 0 (bitsXor .u64 (r 0) 1)) 0 (bitsXor .u64 (bitsXor .u64 (r 0) 1) 2)) 0 (bitsXor .u64 (bitsXor .u64 (bitsXor .u64 (r 0) 1) 2) 8)) 0 (bitsXor .u64 (bitsXor .u64 (bitsXor .u64 (bitsXor .u64 (r 0) 1) 2) 8) 128)) 0 (bitsXor .u64 (bitsXor .u64 (bitsXor .u64 (bitsXor .u64 (bitsXor .u64 (r 0) 1) 2) 8) 128) 0)) 0 (bitsXor .u64 (bitsXor .u64 (bitsXor .u64 (bitsXor .u64 (bitsXor .u64 (bitsXor .u64 (r 0) 1) 2) 8) 128) 0) 0)) 0 (bitsXor .u64 (bitsXor .u64 (bitsXor .u64 (bitsXor .u64 (bitsXor .u64 (bitsXor .u64 (bitsXor .u64 (r 0) 1) 2) 8) 128) 0) 0) 9223372036854775808))
theorem loop6_13 (t17 : Int) (r r2 : Nat → Int) : loopO stepk9_6 (205, t17, 0, r, r2) = some (99, t17, ch6_13 r, r2) := iterO_loop (n := 8) (by kernel_rfl)
theorem step0_13 (r r2 : Nat → Int) : stepk9_0 (205, 13, r, r2) = some (.inl (99, 14, ch6_13 (ch4 (ch3 (ch2 r (ch1 r)))), r2)) := by
  have h : stepk9_0 (205, 13, r, r2) = (loopO stepk9_1 (205, 13, r, 0, r, r2, (fun _ => 0))).bind fun z => (loopO stepk9_2 (z.1, z.2.1, 0, z.2.2.1, z.2.2.2.1, z.2.2.2.2)).bind fun z => (loopO stepk9_3 (z.1, 1, 0, (z.2.2.1 1), z.2.1, 0, z.2.2.1, z.2.2.2)).bind fun z => (loopO stepk9_4 (z.1, 0, z.2.1, z.2.2.1, z.2.2.2)).bind fun z => (loopO stepk9_6 (z.1, z.2.1, 0, z.2.2.1, z.2.2.2)).bind fun z => some (.inl (z.1, (IntKind.i64.wrap (z.2.1 + 1)), z.2.2.1, z.2.2.2)) := by kernel_rfl
  rw [h, loop1]
  simp only [Option.bind_some]
  rw [loop2]
  simp only [Option.bind_some]
  rw [loop3]
  simp only [Option.bind_some]
  rw [loop4]
  simp only [Option.bind_some]
  rw [loop6_13]
  rfl
def ch6_14 (r : Nat → Int) : Nat → Int := (upd (upd (upd (upd (upd (upd (upd r 0 (bitsXor .u64 (r 0) 1)) 0 (bitsXor .u64 (bitsXor .u64 (r 0) 1) 0)) 0 (bitsXor .u64 (bitsXor .u64 (bitsXor .u64 (r 0) 1) 0) 8)) 0 (bitsXor .u64 (bitsXor .u64 (bitsXor .u64 (bitsXor .u64 (r 0) 1) 0) 8) 128)) 0 (bitsXor .u64 (bitsXor .u64 (bitsXor .u64 (bitsXor .u64 (bitsXor .u64 (r 0) 1) 0) 8) 128) 32768)) 0 (bitsXor .u64 (bitsXor .u64 (bitsXor .u64 (bitsXor .u64 (bitsXor .u64 (bitsXor .u64 (r 0) 1) 0) 8) 128) 32768) 0)) 0 (bitsXor .u64 (bitsXor .u64 (bitsXor .u64 (bitsXor .u64 (bitsXor .u64 (bitsXor .u64 (bitsXor .u64 (r 0) 1) 0) 8) 128) 32768) 0) 9223372036854775808))
theorem loop6_14 (t17 : Int) (r r2 : Nat → Int) : loopO stepk9_6 (99, t17, 0, r, r2) = some (171, t17, ch6_14 r, r2) := iterO_loop (n := 8) (by kernel_rfl)
theorem step0_14 (r r2 : Nat → Int) : stepk9_0 (99, 14, r, r2) = some (.inl (171, 15, ch6_14 (ch4 (ch3 (ch2 r (ch1 r)))), r2)) := by
  have h : stepk9_0 (99, 14, r, r2) = (loopO stepk9_1 (99, 14, r, 0, r, r2, (fun _ => 0))).bind fun z => (loopO stepk9_2 (z.1, z.2.1, 0, z.2.2.1, z.2.2.2.1, z.2.2.2.2)).bind fun z => (loopO stepk9_3 (z.1, 1, 0, (z.2.2.1 1), z.2.1, 0, z.2.2.1, z.2.2.2)).bind fun z => (loopO stepk9_4 (z.1, 0, z.2.1, z.2.2.1, z.2.2.2)).bind fun z => (loopO stepk9_6 (z.1, z.2.1, 0, z.2.2.1, z.2.2.2)).bind fun z => some (.inl (z.1, (IntKind.i64.wrap (z.2.1 + 1)), z.2.2.1, z.2.2.2)) := by kernel_rfl
  rw [h, loop1]
  simp only [Option.bind_some]
  rw [loop2]
  simp only [Option.bind_some]
  rw [loop3]
  simp only [Option.bind_some]
  rw [loop4]
  simp only [Option.bind_some]
  rw [loop6_14]
  rfl
def ch6_15 (r : Nat → Int) : Nat → Int := (upd (upd (upd (upd (upd (upd (upd r 0 (bitsXor .u64 (r 0) 1)) 0 (bitsXor .u64 (bitsXor .u64 (r 0) 1) 2)) 0 (bitsXor .u64 (bitsXor .u64 (bitsXor .u64 (r 0) 1) 2) 0)) 0 (bitsXor .u64 (bitsXor .u64 (bitsXor .u64 (bitsXor .u64 (r 0) 1) 2) 0) 0)) 0 (bitsXor .u64 (bitsXor .u64 (bitsXor .u64 (bitsXor .u64 (bitsXor .u64 (r 0) 1) 2) 0) 0) 32768)) 0 (bitsXor .u64 (bitsXor .u64 (bitsXor .u64 (bitsXor .u64 (bitsXor .u64 (bitsXor .u64 (r 0) 1) 2) 0) 0) 32768) 0)) 0 (bitsXor .u64 (bitsXor .u64 (bitsXor .u64 (bitsXor .u64 (bitsXor .u64 (bitsXor .u64 (bitsXor .u64 (r 0) 1) 2) 0) 0) 32768) 0) 9223372036854775808))
theorem loop6_15 (t17 : Int) (r r2 : Nat → Int) : loopO stepk9_6 (171, t17, 0, r, r2) = some (170, t17, ch6_15 r, r2) := iterO_loop (n := 8) (by kernel_rfl)
theorem step0_15 (r r2 : Nat → Int) : stepk9_0 (171, 15, r, r2) = some (.inl (170, 16, ch6_15 (ch4 (ch3 (ch2 r (ch1 r)))), r2)) := by
  have h : stepk9_0 (171, 15, r, r2) = (loopO stepk9_1 (171, 15, r, 0, r, r2, (fun _ => 0))).bind fun z => (loopO stepk9_2 (z.1, z.2.1, 0, z.2.2.1, z.2.2.2.1, z.2.2.2.2)).bind fun z => (loopO stepk9_3 (z.1, 1, 0, (z.2.2.1 1), z.2.1, 0, z.2.2.1, z.2.2.2)).bind fun z => (loopO stepk9_4 (z.1, 0, z.2.1, z.2.2.1, z.2.2.2)).bind fun z => (loopO stepk9_6 (z.1, z.2.1, 0, z.2.2.1, z.2.2.2)).bind fun z => some (.inl (z.1, (IntKind.i64.wrap (z.2.1 + 1)), z.2.2.1, z.2.2.2)) := by kernel_rfl
  rw [h, loop1]
  simp only [Option.bind_some]
  rw [loop2]
  simp only [Option.bind_some]
  rw [loop3]
  simp only [Option.bind_some]
  rw [loop4]
  simp only [Option.bind_some]
  rw [loop6_15]
  rfl
def ch6_16 (r : Nat → Int) : Nat → Int := (upd (upd (upd (upd (upd (upd (upd r 0 (bitsXor .u64 (r 0) 0)) 0 (bitsXor .u64 (bitsXor .u64 (r 0) 0) 2)) 0 (bitsXor .u64 (bitsXor .u64 (bitsXor .u64 (r 0) 0) 2) 0)) 0 (bitsXor .u64 (bitsXor .u64 (bitsXor .u64 (bitsXor .u64 (r 0) 0) 2) 0) 0)) 0 (bitsXor .u64 (bitsXor .u64 (bitsXor .u64 (bitsXor .u64 (bitsXor .u64 (r 0) 0) 2) 0) 0) 32768)) 0 (bitsXor .u64 (bitsXor .u64 (bitsXor .u64 (bitsXor .u64 (bitsXor .u64 (bitsXor .u64 (r 0) 0) 2) 0) 0) 32768) 0)) 0 (bitsXor .u64 (bitsXor .u64 (bitsXor .u64 (bitsXor .u64 (bitsXor .u64 (bitsXor .u64 (bitsXor .u64 (r 0) 0) 2) 0) 0) 32768) 0) 9223372036854775808))
theorem loop6_16 (t17 : Int) (r r2 : Nat → Int) : loopO stepk9_6 (170, t17, 0, r, r2) = some (42, t17, ch6_16 r, r2) := iterO_loop (n := 8) (by kernel_rfl)
theorem step0_16 (r r2 : Nat → Int) : stepk9_0 (170, 16, r, r2) = some (.inl (42, 17, ch6_16 (ch4 (ch3 (ch2 r (ch1 r)))), r2)) := by
  have h : stepk9_0 (170, 16, r, r2) = (loopO stepk9_1 (170, 16, r, 0, r, r2, (fun _ => 0))).bind fun z => (loopO stepk9_2 (z.1, z.2.1, 0, z.2.2.1, z.2.2.2.1, z.2.2.2.2)).bind fun z => (loopO stepk9_3 (z.1, 1, 0, (z.2.2.1 1), z.2.1, 0, z.2.2.1, z.2.2.2)).bind fun z => (loopO stepk9_4 (z.1, 0, z.2.1, z.2.2.1, z.2.2.2)).bind fun z => (loopO stepk9_6 (z.1, z.2.1, 0, z.2.2.1, z.2.2.2)).bind fun z => some (.inl (z.1, (IntKind.i64.wrap (z.2.1 + 1)), z.2.2.1, z.2.2.2)) := by kernel_rfl
  rw [h, loop1]
  simp only [Option.bind_some]
  rw [loop2]
  simp only [Option.bind_some]
  rw [loop3]
  simp only [Option.bind_some]
  rw [loop4]
  simp only [Option.bind_some]
  rw [loop6_16]
  rfl
def ch6_17 (r : Nat → Int) : Nat → Int := (upd (upd (upd (upd (upd (upd (upd r 0 (bitsXor .u64 (r 0) 0)) 0 (bitsXor .u64 (bitsXor .u64 (r 0) 0) 0)) 0 (bitsXor .u64 (bitsXor .u64 (bitsXor .u64 (r 0) 0) 0) 0)) 0 (bitsXor .u64 (bitsXor .u64 (bitsXor .u64 (bitsXor .u64 (r 0) 0) 0) 0) 128)) 0 (bitsXor .u64 (bitsXor .u64 (bitsXor .u64 (bitsXor .u64 (bitsXor .u64 (r 0) 0) 0) 0) 128) 0)) 0 (bitsXor .u64 (bitsXor .u64 (bitsXor .u64 (bitsXor .u64 (bitsXor .u64 (bitsXor .u64 (r 0) 0) 0) 0) 128) 0) 0)) 0 (bitsXor .u64 (bitsXor .u64 (bitsXor .u64 (bitsXor .u64 (bitsXor .u64 (bitsXor .u64 (bitsXor .u64 (r 0) 0) 0) 0) 128) 0) 0) 9223372036854775808))
theorem loop6_17 (t17 : Int) (r r2 : Nat → Int) : loopO stepk9_6 (42, t17, 0, r, r2) = some (242, t17, ch6_17 r, r2) := iterO_loop (n := 8) (by kernel_rfl)
theorem step0_17 (r r2 : Nat → Int) : stepk9_0 (42, 17, r, r2) = some (.inl (242, 18, ch6_17 (ch4 (ch3 (ch2 r (ch1 r)))), r2)) := by
  have h : stepk9_0 (42, 17, r, r2) = (loopO stepk9_1 (42, 17, r, 0, r, r2, (fun _ => 0))).bind fun z => (loopO stepk9_2 (z.1, z.2.1, 0, z.2.2.1, z.2.2.2.1, z.2.2.2.2)).bind fun z => (loopO stepk9_3 (z.1, 1, 0, (z.2.2.1 1), z.2.1, 0, z.2.2.1, z.2.2.2)).bind fun z => (loopO stepk9_4 (z.1, 0, z.2.1, z.2.2.1, z.2.2.2)).bind fun z => (loopO stepk9_6 (z.1, z.2.1, 0, z.2.2.1, z.2.2.2)).bind fun z => some (.inl (z.1, (IntKind.i64.wrap (z.2.1 + 1)), z.2.2.1, z.2.2.2)) := by kernel_rfl
  rw [h, loop1]
  simp only [Option.bind_some]
  rw [loop2]
  simp only [Option.bind_some]
  rw [loop3]
  simp only [Option.bind_some]
  rw [loop4]
  simp only [Option.bind_some]
  rw [loop6_17]
  rfl
def ch6_18 (r : Nat → Int) : Nat → Int := (upd (upd (upd (upd (upd (upd (upd r 0 (bitsXor .u64 (r 0) 0)) 0 (bitsXor .u64 (bitsXor .u64 (r 0) 0) 2)) 0 (bitsXor .u64 (bitsXor .u64 (bitsXor .u64 (r 0) 0) 2) 8)) 0 (bitsXor .u64 (bitsXor .u64 (bitsXor .u64 (bitsXor .u64 (r 0) 0) 2) 8) 0)) 0 (bitsXor .u64 (bitsXor .u64 (bitsXor .u64 (bitsXor .u64 (bitsXor .u64 (r 0) 0) 2) 8) 0) 32768)) 0 (bitsXor .u64 (bitsXor .u64 (bitsXor .u64 (bitsXor .u64 (bitsXor .u64 (bitsXor .u64 (r 0) 0) 2) 8) 0) 32768) 0)) 0 (bitsXor .u64 (bitsXor .u64 (bitsXor .u64 (bitsXor .u64 (bitsXor .u64 (bitsXor .u64 (bitsXor .u64 (r 0) 0) 2) 8) 0) 32768) 0) 0))
theorem loop6_18 (t17 : Int) (r r2 : Nat → Int) : loopO stepk9_6 (242, t17, 0, r, r2) = some (232, t17, ch6_18 r, r2) := iterO_loop (n := 8) (by kernel_rfl)
theorem step0_18 (r r2 : Nat → Int) : stepk9_0 (242, 18, r, r2) = some (.inl (232, 19, ch6_18 (ch4 (ch3 (ch2 r (ch1 r)))), r2)) := by
  have h : stepk9_0 (242, 18, r, r2) = (loopO stepk9_1 (242, 18, r, 0, r, r2, (fun _ => 0))).bind fun z => (loopO stepk9_2 (z.1, z.2.1, 0, z.2.2.1, z.2.2.2.1, z.2.2.2.2)).bind fun z => (loopO stepk9_3 (z.1, 1, 0, (z.2.2.1 1), z.2.1, 0, z.2.2.1, z.2.2.2)).bind fun z => (loopO stepk9_4 (z.1, 0, z.2.1, z.2.2.1, z.2.2.2)).bind fun z => (loopO stepk9_6 (z.1, z.2.1, 0, z.2.2.1, z.2.2.2)).bind fun z => some (.inl (z.1, (IntKind.i64.wrap (z.2.1 + 1)), z.2.2.1, z.2.2.2)) := by kernel_rfl
  rw [h, loop1]
  simp only [Option.bind_some]
  rw [loop2]
  simp only [Option.bind_some]
  rw [loop3]
  simp only [Option.bind_some]
  rw [loop4]
  simp only [Option.bind_some]
  rw [loop6_18]
  rfl
def ch6_19 (r : Nat → Int) : Nat → Int := (upd (upd (upd (upd (upd (upd (upd r 0 (bitsXor .u64 (r 0) 0)) 0 (bitsXor .u64 (bitsXor .u64 (r 0) 0) 2)) 0 (bitsXor .u64 (bitsXor .u64 (bitsXor .u64 (r 0) 0) 2) 8)) 0 (bitsXor .u64 (bitsXor .u64 (bitsXor .u64 (bitsXor .u64 (r 0) 0) 2) 8) 0)) 0 (bitsXor .u64 (bitsXor .u64 (bitsXor .u64 (bitsXor .u64 (bitsXor .u64 (r 0) 0) 2) 8) 0) 0)) 0 (bitsXor .u64 (bitsXor .u64 (bitsXor .u64 (bitsXor .u64 (bitsXor .u64 (bitsXor .u64 (r 0) 0) 2) 8) 0) 0) 2147483648)) 0 (bitsXor .u64 (bitsXor .u64 (bitsXor .u64 (bitsXor .u64 (bitsXor .u64 (bitsXor .u64 (bitsXor .u64 (r 0) 0) 2) 8) 0) 0) 2147483648) 9223372036854775808))
theorem loop6_19 (t17 : Int) (r r2 : Nat → Int) : loopO stepk9_6 (232, t17, 0, r, r2) = some (55, t17, ch6_19 r, r2) := iterO_loop (n := 8) (by kernel_rfl)
theorem step0_19 (r r2 : Nat → Int) : stepk9_0 (232, 19, r, r2) = some (.inl (55, 20, ch6_19 (ch4 (ch3 (ch2 r (ch1 r)))), r2)) := by
  have h : stepk9_0 (232, 19, r, r2) = (loopO stepk9_1 (232, 19, r, 0, r, r2, (fun _ => 0))).bind fun z => (loopO stepk9_2 (z.1, z.2.1, 0, z.2.2.1, z.2.2.2.1, z.2.2.2.2)).bind fun z => (loopO stepk9_3 (z.1, 1, 0, (z.2.2.1 1), z.2.1, 0, z.2.2.1, z.2.2.2)).bind fun z => (loopO stepk9_4 (z.1, 0, z.2.1, z.2.2.1, z.2.2.2)).bind fun z => (loopO stepk9_6 (z.1, z.2.1, 0, z.2.2.1, z.2.2.2)).bind fun z => some (.inl (z.1, (IntKind.i64.wrap (z.2.1 + 1)), z.2.2.1, z.2.2.2)) := by kernel_rfl
  rw [h, loop1]
  simp only [Option.bind_some]
  rw [loop2]
  simp only [Option.bind_some]
  rw [loop3]
  simp only [Option.bind_some]
  rw [loop4]
  simp only [Option.bind_some]
  rw [loop6_19]
  rfl
def ch6_20 (r : Nat → Int) : Nat → Int := (upd (upd (upd (upd (upd (upd (upd r 0 (bitsXor .u64 (r 0) 1)) 0 (bitsXor .u64 (bitsXor .u64 (r 0) 1) 0)) 0 (bitsXor .u64 (bitsXor .u64 (bitsXor .u64 (r 0) 1) 0) 0)) 0 (bitsXor .u64 (bitsXor .u64 (bitsXor .u64 (bitsXor .u64 (r 0) 1) 0) 0) 128)) 0 (bitsXor .u64 (bitsXor .u64 (bitsXor .u64 (bitsXor .u64 (bitsXor .u64 (r 0) 1) 0) 0) 128) 32768)) 0 (bitsXor .u64 (bitsXor .u64 (bitsXor .u64 (bitsXor .u64 (bitsXor .u64 (bitsXor .u64 (r 0) 1) 0) 0) 128) 32768) 2147483648)) 0 (bitsXor .u64 (bitsXor .u64 (bitsXor .u64 (bitsXor .u64 (bitsXor .u64 (bitsXor .u64 (bitsXor .u64 (r 0) 1) 0) 0) 128) 32768) 2147483648) 9223372036854775808))
theorem loop6_20 (t17 : Int) (r r2 : Nat → Int) : loopO stepk9_6 (55, t17, 0, r, r2) = some (62, t17, ch6_20 r, r2) := iterO_loop (n := 8) (by kernel_rfl)
theorem step0_20 (r r2 : Nat → Int) : stepk9_0 (55, 20, r, r2) = some (.inl (62, 21, ch6_20 (ch4 (ch3 (ch2 r (ch1 r)))), r2)) := by
  have h : stepk9_0 (55, 20, r, r2) = (loopO stepk9_1 (55, 20, r, 0, r, r2, (fun _ => 0))).bind fun z => (loopO stepk9_2 (z.1, z.2.1, 0, z.2.2.1, z.2.2.2.1, z.2.2.2.2)).bind fun z => (loopO stepk9_3 (z.1, 1, 0, (z.2.2.1 1), z.2.1, 0, z.2.2.1, z.2.2.2)).bind fun z => (loopO stepk9_4 (z.1, 0, z.2.1, z.2.2.1, z.2.2.2)).bind fun z => (loopO stepk9_6 (z.1, z.2.1, 0, z.2.2.1, z.2.2.2)).bind fun z => some (.inl (z.1, (IntKind.i64.wrap (z.2.1 + 1)), z.2.2.1, z.2.2.2)) := by kernel_rfl
  rw [h, loop1]
  simp only [Option.bind_some]
  rw [loop2]
  simp only [Option.bind_some]
  rw [loop3]
  simp only [Option.bind_some]
  rw [loop4]
  simp only [Option.bind_some]
  rw [loop6_20]
  rfl
def ch6_21 (r : Nat → Int) : Nat → Int := (upd (upd (upd (upd (upd (upd (upd r 0 (bitsXor .u64 (r 0) 0)) 0 (bitsXor .u64 (bitsXor .u64 (r 0) 0) 0)) 0 (bitsXor .u64 (bitsXor .u64 (bitsXor .u64 (r 0) 0) 0) 0)) 0 (bitsXor .u64 (bitsXor .u64 (bitsXor .u64 (bitsXor .u64 (r 0) 0) 0) 0) 128)) 0 (bitsXor .u64 (bitsXor .u64 (bitsXor .u64 (bitsXor .u64 (bitsXor .u64 (r 0) 0) 0) 0) 128) 32768)) 0 (bitsXor .u64 (bitsXor .u64 (bitsXor .u64 (bitsXor .u64 (bitsXor .u64 (bitsXor .u64 (r 0) 0) 0) 0) 128) 32768) 0)) 0 (bitsXor .u64 (bitsXor .u64 (bitsXor .u64 (bitsXor .u64 (bitsXor .u64 (bitsXor .u64 (bitsXor .u64 (r 0) 0) 0) 0) 128) 32768) 0) 9223372036854775808))
theorem loop6_21 (t17 : Int) (r r2 : Nat → Int) : loopO stepk9_6 (62, t17, 0, r, r2) = some (11, t17, ch6_21 r, r2) := iterO_loop (n := 8) (by kernel_rfl)
theorem step0_21 (r r2 : Nat → Int) : stepk9_0 (62, 21, r, r2) = some (.inl (11, 22, ch6_21 (ch4 (ch3 (ch2 r (ch1 r)))), r2)) := by
  have h : stepk9_0 (62, 21, r, r2) = (loopO stepk9_1 (62, 21, r, 0, r, r2, (fun _ => 0))).bind fun z => (loopO stepk9_2 (z.1, z.2.1, 0, z.2.2.1, z.2.2.2.1, z.2.2.2.2)).bind fun z => (loopO stepk9_3 (z.1, 1, 0, (z.2.2.1 1), z.2.1, 0, z.2.2.1, z.2.2.2)).bind fun z => (loopO stepk9_4 (z.1, 0, z.2.1, z.2.2.1, z.2.2.2)).bind fun z => (loopO stepk9_6 (z.1, z.2.1, 0, z.2.2.1, z.2.2.2)).bind fun z => some (.inl (z.1, (IntKind.i64.wrap (z.2.1 + 1)), z.2.2.1, z.2.2.2)) := by kernel_rfl
  rw [h, loop1]
  simp only [Option.bind_some]
  rw [loop2]
  simp only [Option.bind_some]
  rw [loop3]
  simp only [Option.bind_some]
  rw [loop4]
  simp only [Option.bind_some]
  rw [loop6_21]
  rfl
def ch6_22 (r : Nat → Int) : Nat → Int := (upd (upd (upd (upd (upd (upd (upd r 0 (bitsXor .u64 (r 0) 1)) 0 (bitsXor .u64 (bitsXor .u64 (r 0) 1) 0)) 0 (bitsXor .u64 (bitsXor .u64 (bitsXor .u64 (r 0) 1) 0) 0)) 0 (bitsXor .u64 (bitsXor .u64 (bitsXor .u64 (bitsXor .u64 (r 0) 1) 0) 0) 0)) 0 (bitsXor .u64 (bitsXor .u64 (bitsXor .u64 (bitsXor .u64 (bitsXor .u64 (r 0) 1) 0) 0) 0) 0)) 0 (bitsXor .u64 (bitsXor .u64 (bitsXor .u64 (bitsXor .u64 (bitsXor .u64 (bitsXor .u64 (r 0) 1) 0) 0) 0) 0) 2147483648)) 0 (bitsXor .u64 (bitsXor .u64 (bitsXor .u64 (bitsXor .u64 (bitsXor .u64 (bitsXor .u64 (bitsXor .u64 (r 0) 1) 0) 0) 0) 0) 2147483648) 0))
theorem loop6_22 (t17 : Int) (r r2 : Nat → Int) : loopO stepk9_6 (11, t17, 0, r, r2) = some (68, t17, ch6_22 r, r2) := iterO_loop (n := 8) (by kernel_rfl)
theorem step0_22 (r r2 : Nat → Int) : stepk9_0 (11, 22, r, r2) = some (.inl (68, 23, ch6_22 (ch4 (ch3 (ch2 r (ch1 r)))), r2)) := by
  have h : stepk9_0 (11, 22, r, r2) = (loopO stepk9_1 (11, 22, r, 0, r, r2, (fun _ => 0))).bind fun z => (loopO stepk9_2 (z.1, z.2.1, 0, z.2.2.1, z.2.2.2.1, z.2.2.2.2)).bind fun z => (loopO stepk9_3 (z.1, 1, 0, (z.2.2.1 1), z.2.1, 0, z.2.2.1, z.2.2.2)).bind fun z => (loopO stepk9_4 (z.1, 0, z.2.1, z.2.2.1, z.2.2.2)).bind fun z => (loopO stepk9_6 (z.1, z.2.1, 0, z.2.2.1, z.2.2.2)).bind fun z => some (.inl (z.1, (IntKind.i64.wrap (z.2.1 + 1)), z.2.2.1, z.2.2.2)) := by kernel_rfl
  rw [h, loop1]
  simp only [Option.bind_some]
  rw [loop2]
  simp only [Option.bind_some]
  rw [loop3]
  simp only [Option.bind_some]
  rw [loop4]
  simp only [Option.bind_some]
  rw [loop6_22]
  rfl
def ch6_23 (r : Nat → Int) : Nat → Int := (upd (upd (upd (upd (upd (upd (upd r 0 (bitsXor .u64 (r 0) 0)) 0 (bitsXor .u64 (bitsXor .u64 (r 0) 0) 0)) 0 (bitsXor .u64 (bitsXor .u64 (bitsXor .u64 (r 0) 0) 0) 8)) 0 (bitsXor .u64 (bitsXor .u64 (bitsXor .u64 (bitsXor .u64 (r 0) 0) 0) 8) 0)) 0 (bitsXor .u64 (bitsXor .u64 (bitsXor .u64 (bitsXor .u64 (bitsXor .u64 (r 0) 0) 0) 8) 0) 32768)) 0 (bitsXor .u64 (bitsXor .u64 (bitsXor .u64 (bitsXor .u64 (bitsXor .u64 (bitsXor .u64 (r 0) 0) 0) 8) 0) 32768) 2147483648)) 0 (bitsXor .u64 (bitsXor .u64 (bitsXor .u64 (bitsXor .u64 (bitsXor .u64 (bitsXor .u64 (bitsXor .u64 (r 0) 0) 0) 8) 0) 32768) 2147483648) 9223372036854775808))
theorem loop6_23 (t17 : Int) (r r2 : Nat → Int) : loopO stepk9_6 (68, t17, 0, r, r2) = some (142, t17, ch6_23 r, r2) := iterO_loop (n := 8) (by kernel_rfl)
theorem step0_23 (r r2 : Nat → Int) : stepk9_0 (68, 23, r, r2) = some (.inl (142, 24, ch6_23 (ch4 (ch3 (ch2 r (ch1 r)))), r2)) := by
  have h : stepk9_0 (68, 23, r, r2) = (loopO stepk9_1 (68, 23, r, 0, r, r2, (fun _ => 0))).bind fun z => (loopO stepk9_2 (z.1, z.2.1, 0, z.2.2.1, z.2.2.2.1, z.2.2.2.2)).bind fun z => (loopO stepk9_3 (z.1, 1, 0, (z.2.2.1 1), z.2.1, 0, z.2.2.1, z.2.2.2)).bind fun z => (loopO stepk9_4 (z.1, 0, z.2.1, z.2.2.1, z.2.2.2)).bind fun z => (loopO stepk9_6 (z.1, z.2.1, 0, z.2.2.1, z.2.2.2)).bind fun z => some (.inl (z.1, (IntKind.i64.wrap (z.2.1 + 1)), z.2.2.1, z.2.2.2)) := by kernel_rfl
  rw [h, loop1]
  simp only [Option.bind_some]
  rw [loop2]
  simp only [Option.bind_some]
  rw [loop3]
  simp only [Option.bind_some]
  rw [loop4]
  simp only [Option.bind_some]
  rw [loop6_23]
  rfl
def rd (g : (Nat → Int) → (Nat → Int)) (r : Nat → Int) : Nat → Int := g (ch4 (ch3 (ch2 r (ch1 r))))
def perm9 (a : Nat → Int) : Nat → Int := (rd ch6_23 (rd ch6_22 (rd ch6_21 (rd ch6_20 (rd ch6_19 (rd ch6_18 (rd ch6_17 (rd ch6_16 (rd ch6_15 (rd ch6_14 (rd ch6_13 (rd ch6_12 (rd ch6_11 (rd ch6_10 (rd ch6_9 (rd ch6_8 (rd ch6_7 (rd ch6_6 (rd ch6_5 (rd ch6_4 (rd ch6_3 (rd ch6_2 (rd ch6_1 (rd ch6_0 a))))))))))))))))))))))))
theorem Fk9_eq (a : Nat → Int) : Fk9 a = some (perm9 a) := by
  have h : Fk9 a = (loopO stepk9_0 (1, 0, a, (fun _ => 0))).bind fun z => some z.1 := by kernel_rfl
  rw [h]
  rw [loop_inl (step0_0 _ _)]
  rw [loop_inl (step0_1 _ _)]
  rw [loop_inl (step0_2 _ _)]
  rw [loop_inl (step0_3 _ _)]
  rw [loop_inl (step0_4 _ _)]
  rw [loop_inl (step0_5 _ _)]
  rw [loop_inl (step0_6 _ _)]
  rw [loop_inl (step0_7 _ _)]
  rw [loop_inl (step0_8 _ _)]
  rw [loop_inl (step0_9 _ _)]
  rw [loop_inl (step0_10 _ _)]
  rw [loop_inl (step0_11 _ _)]
  rw [loop_inl (step0_12 _ _)]
  rw [loop_inl (step0_13 _ _)]
  rw [loop_inl (step0_14 _ _)]
  rw [loop_inl (step0_15 _ _)]
  rw [loop_inl (step0_16 _ _)]
  rw [loop_inl (step0_17 _ _)]
  rw [loop_inl (step0_18 _ _)]
  rw [loop_inl (step0_19 _ _)]
  rw [loop_inl (step0_20 _ _)]
  rw [loop_inl (step0_21 _ _)]
  rw [loop_inl (step0_22 _ _)]
  rw [loop_inl (step0_23 _ _)]
  rw [iterO_loop (n := 1) (t := (perm9 a, (fun _ => 0))) (by kernel_rfl)]
  rfl
end
end Go.Abs
