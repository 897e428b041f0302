/- The reference's Permute, its loops run. Printed by tools/kperm2.py. -/
import Derived.Test.YtlloghihfigalaaKPermL
set_option linter.unusedVariables false
set_option maxRecDepth 100000
namespace Go.Abs.KRef
noncomputable section
def offF : Nat → Int := (upd (upd (upd (upd (upd (upd (upd (upd (upd (upd (upd (upd (upd (upd (upd (upd (upd (upd (upd (upd (upd (upd (upd (upd (fun _ => 0) 1 1) 10 3) 7 6) 11 10) 17 15) 18 21) 3 28) 5 36) 16 45) 8 55) 21 2) 24 14) 4 27) 15 41) 23 56) 19 8) 13 25) 12 43) 2 62) 20 18) 14 39) 22 61) 9 20) 6 44)
theorem Fk27_eq : Fk27 () = some offF := by
  have h : Fk27 () = (loopO stepk27_0 (1, 0, 0, (fun _ => 0), (fun _ => 0))).bind fun z => some z.2 := by kernel_rfl
  rw [h, iterO_loop (n := 25) (t := ((fun _ => 0), offF)) (by kernel_rfl)]
  rfl
def c28_0 (r : Nat → Int) : Nat → Int := (upd (upd (upd (upd (upd (upd (upd r 0 (IntKind.u64.wrap ((r 0) + 1))) 0 (IntKind.u64.wrap ((IntKind.u64.wrap ((r 0) + 1)) + 0))) 0 (IntKind.u64.wrap ((IntKind.u64.wrap ((IntKind.u64.wrap ((r 0) + 1)) + 0)) + 0))) 0 (IntKind.u64.wrap ((IntKind.u64.wrap ((IntKind.u64.wrap ((IntKind.u64.wrap ((r 0) + 1)) + 0)) + 0)) + 0))) 0 (IntKind.u64.wrap ((IntKind.u64.wrap ((IntKind.u64.wrap ((IntKind.u64.wrap ((IntKind.u64.wrap ((r 0) + 1)) + 0)) + 0)) + 0)) + 0))) 0 (IntKind.u64.wrap ((IntKind.u64.wrap ((IntKind.u64.wrap ((IntKind.u64.wrap ((IntKind.u64.wrap ((IntKind.u64.wrap ((r 0) + 1)) + 0)) + 0)) + 0)) + 0)) + 0))) 0 (IntKind.u64.wrap ((IntKind.u64.wrap ((IntKind.u64.wrap ((IntKind.u64.wrap ((IntKind.u64.wrap ((IntKind.u64.wrap ((IntKind.u64.wrap ((r 0) + 1)) + 0)) + 0)) + 0)) + 0)) + 0)) + 0)))
theorem l28_0 (r0 r : Nat → Int) : loopO stepk28_1 (1, 0, 1, 0, r0, r) = some (128, 0, r0, c28_0 r) := iterO_loop (n := 8) (by kernel_rfl)
theorem s28_0 (r0 r : Nat → Int) : stepk28_0 (1, 0, r0, r) = some (.inl (128, 1, r0, c28_0 r)) := by
  have h : stepk28_0 (1, 0, r0, r) = (loopO stepk28_1 (1, 0, 1, 0, r0, r)).bind fun z => some (.inl (z.1, (IntKind.i64.wrap (z.2.1 + 1)), z.2.2.1, z.2.2.2)) := by kernel_rfl
  rw [h, l28_0]
  rfl
def c28_1 (r : Nat → Int) : Nat → Int := (upd (upd (upd (upd (upd (upd (upd r 1 (IntKind.u64.wrap ((r 1) + 0))) 1 (IntKind.u64.wrap ((IntKind.u64.wrap ((r 1) + 0)) + 2))) 1 (IntKind.u64.wrap ((IntKind.u64.wrap ((IntKind.u64.wrap ((r 1) + 0)) + 2)) + 0))) 1 (IntKind.u64.wrap ((IntKind.u64.wrap ((IntKind.u64.wrap ((IntKind.u64.wrap ((r 1) + 0)) + 2)) + 0)) + 128))) 1 (IntKind.u64.wrap ((IntKind.u64.wrap ((IntKind.u64.wrap ((IntKind.u64.wrap ((IntKind.u64.wrap ((r 1) + 0)) + 2)) + 0)) + 128)) + 32768))) 1 (IntKind.u64.wrap ((IntKind.u64.wrap ((IntKind.u64.wrap ((IntKind.u64.wrap ((IntKind.u64.wrap ((IntKind.u64.wrap ((r 1) + 0)) + 2)) + 0)) + 128)) + 32768)) + 0))) 1 (IntKind.u64.wrap ((IntKind.u64.wrap ((IntKind.u64.wrap ((IntKind.u64.wrap ((IntKind.u64.wrap ((IntKind.u64.wrap ((IntKind.u64.wrap ((r 1) + 0)) + 2)) + 0)) + 128)) + 32768)) + 0)) + 0)))
theorem l28_1 (r0 r : Nat → Int) : loopO stepk28_1 (128, 1, 1, 0, r0, r) = some (216, 1, r0, c28_1 r) := iterO_loop (n := 8) (by kernel_rfl)
theorem s28_1 (r0 r : Nat → Int) : stepk28_0 (128, 1, r0, r) = some (.inl (216, 2, r0, c28_1 r)) := by
  have h : stepk28_0 (128, 1, r0, r) = (loopO stepk28_1 (128, 1, 1, 0, r0, r)).bind fun z => some (.inl (z.1, (IntKind.i64.wrap (z.2.1 + 1)), z.2.2.1, z.2.2.2)) := by kernel_rfl
  rw [h, l28_1]
  rfl
def c28_2 (r : Nat → Int) : Nat → Int := (upd (upd (upd (upd (upd (upd (upd r 2 (IntKind.u64.wrap ((r 2) + 0))) 2 (IntKind.u64.wrap ((IntKind.u64.wrap ((r 2) + 0)) + 2))) 2 (IntKind.u64.wrap ((IntKind.u64.wrap ((IntKind.u64.wrap ((r 2) + 0)) + 2)) + 8))) 2 (IntKind.u64.wrap ((IntKind.u64.wrap ((IntKind.u64.wrap ((IntKind.u64.wrap ((r 2) + 0)) + 2)) + 8)) + 128))) 2 (IntKind.u64.wrap ((IntKind.u64.wrap ((IntKind.u64.wrap ((IntKind.u64.wrap ((IntKind.u64.wrap ((r 2) + 0)) + 2)) + 8)) + 128)) + 32768))) 2 (IntKind.u64.wrap ((IntKind.u64.wrap ((IntKind.u64.wrap ((IntKind.u64.wrap ((IntKind.u64.wrap ((IntKind.u64.wrap ((r 2) + 0)) + 2)) + 8)) + 128)) + 32768)) + 0))) 2 (IntKind.u64.wrap ((IntKind.u64.wrap ((IntKind.u64.wrap ((IntKind.u64.wrap ((IntKind.u64.wrap ((IntKind.u64.wrap ((IntKind.u64.wrap ((r 2) + 0)) + 2)) + 8)) + 128)) + 32768)) + 0)) + 9223372036854775808)))
theorem l28_2 (r0 r : Nat → Int) : loopO stepk28_1 (216, 2, 1, 0, r0, r) = some (26, 2, r0, c28_2 r) := iterO_loop (n := 8) (by kernel_rfl)
theorem s28_2 (r0 r : Nat → Int) : stepk28_0 (216, 2, r0, r) = some (.inl (26, 3, r0, c28_2 r)) := by
  have h : stepk28_0 (216, 2, r0, r) = (loopO stepk28_1 (216, 2, 1, 0, r0, r)).bind fun z => some (.inl (z.1, (IntKind.i64.wrap (z.2.1 + 1)), z.2.2.1, z.2.2.2)) := by kernel_rfl
  rw [h, l28_2]
  rfl
def c28_3 (r : Nat → Int) : Nat → Int := (upd (upd (upd (upd (upd (upd (upd r 3 (IntKind.u64.wrap ((r 3) + 0))) 3 (IntKind.u64.wrap ((IntKind.u64.wrap ((r 3) + 0)) + 0))) 3 (IntKind.u64.wrap ((IntKind.u64.wrap ((IntKind.u64.wrap ((r 3) + 0)) + 0)) + 0))) 3 (IntKind.u64.wrap ((IntKind.u64.wrap ((IntKind.u64.wrap ((IntKind.u64.wrap ((r 3) + 0)) + 0)) + 0)) + 0))) 3 (IntKind.u64.wrap ((IntKind.u64.wrap ((IntKind.u64.wrap ((IntKind.u64.wrap ((IntKind.u64.wrap ((r 3) + 0)) + 0)) + 0)) + 0)) + 32768))) 3 (IntKind.u64.wrap ((IntKind.u64.wrap ((IntKind.u64.wrap ((IntKind.u64.wrap ((IntKind.u64.wrap ((IntKind.u64.wrap ((r 3) + 0)) + 0)) + 0)) + 0)) + 32768)) + 2147483648))) 3 (IntKind.u64.wrap ((IntKind.u64.wrap ((IntKind.u64.wrap ((IntKind.u64.wrap ((IntKind.u64.wrap ((IntKind.u64.wrap ((IntKind.u64.wrap ((r 3) + 0)) + 0)) + 0)) + 0)) + 32768)) + 2147483648)) + 9223372036854775808)))
theorem l28_3 (r0 r : Nat → Int) : loopO stepk28_1 (26, 3, 1, 0, r0, r) = some (223, 3, r0, c28_3 r) := iterO_loop (n := 8) (by kernel_rfl)
theorem s28_3 (r0 r : Nat → Int) : stepk28_0 (26, 3, r0, r) = some (.inl (223, 4, r0, c28_3 r)) := by
  have h : stepk28_0 (26, 3, r0, r) = (loopO stepk28_1 (26, 3, 1, 0, r0, r)).bind fun z => some (.inl (z.1, (IntKind.i64.wrap (z.2.1 + 1)), z.2.2.1, z.2.2.2)) := by kernel_rfl
  rw [h, l28_3]
  rfl
def c28_4 (r : Nat → Int) : Nat → Int := (upd (upd (upd (upd (upd (upd (upd r 4 (IntKind.u64.wrap ((r 4) + 1))) 4 (IntKind.u64.wrap ((IntKind.u64.wrap ((r 4) + 1)) + 2))) 4 (IntKind.u64.wrap ((IntKind.u64.wrap ((IntKind.u64.wrap ((r 4) + 1)) + 2)) + 8))) 4 (IntKind.u64.wrap ((IntKind.u64.wrap ((IntKind.u64.wrap ((IntKind.u64.wrap ((r 4) + 1)) + 2)) + 8)) + 128))) 4 (IntKind.u64.wrap ((IntKind.u64.wrap ((IntKind.u64.wrap ((IntKind.u64.wrap ((IntKind.u64.wrap ((r 4) + 1)) + 2)) + 8)) + 128)) + 32768))) 4 (IntKind.u64.wrap ((IntKind.u64.wrap ((IntKind.u64.wrap ((IntKind.u64.wrap ((IntKind.u64.wrap ((IntKind.u64.wrap ((r 4) + 1)) + 2)) + 8)) + 128)) + 32768)) + 0))) 4 (IntKind.u64.wrap ((IntKind.u64.wrap ((IntKind.u64.wrap ((IntKind.u64.wrap ((IntKind.u64.wrap ((IntKind.u64.wrap ((IntKind.u64.wrap ((r 4) + 1)) + 2)) + 8)) + 128)) + 32768)) + 0)) + 0)))
theorem l28_4 (r0 r : Nat → Int) : loopO stepk28_1 (223, 4, 1, 0, r0, r) = some (9, 4, r0, c28_4 r) := iterO_loop (n := 8) (by kernel_rfl)
theorem s28_4 (r0 r : Nat → Int) : stepk28_0 (223, 4, r0, r) = some (.inl (9, 5, r0, c28_4 r)) := by
  have h : stepk28_0 (223, 4, r0, r) = (loopO stepk28_1 (223, 4, 1, 0, r0, r)).bind fun z => some (.inl (z.1, (IntKind.i64.wrap (z.2.1 + 1)), z.2.2.1, z.2.2.2)) := by kernel_rfl
  rw [h, l28_4]
  rfl
def c28_5 (r : Nat → Int) : Nat → Int := (upd (upd (upd (upd (upd (upd (upd r 5 (IntKind.u64.wrap ((r 5) + 1))) 5 (IntKind.u64.wrap ((IntKind.u64.wrap ((r 5) + 1)) + 0))) 5 (IntKind.u64.wrap ((IntKind.u64.wrap ((IntKind.u64.wrap ((r 5) + 1)) + 0)) + 0))) 5 (IntKind.u64.wrap ((IntKind.u64.wrap ((IntKind.u64.wrap ((IntKind.u64.wrap ((r 5) + 1)) + 0)) + 0)) + 0))) 5 (IntKind.u64.wrap ((IntKind.u64.wrap ((IntKind.u64.wrap ((IntKind.u64.wrap ((IntKind.u64.wrap ((r 5) + 1)) + 0)) + 0)) + 0)) + 0))) 5 (IntKind.u64.wrap ((IntKind.u64.wrap ((IntKind.u64.wrap ((IntKind.u64.wrap ((IntKind.u64.wrap ((IntKind.u64.wrap ((r 5) + 1)) + 0)) + 0)) + 0)) + 0)) + 2147483648))) 5 (IntKind.u64.wrap ((IntKind.u64.wrap ((IntKind.u64.wrap ((IntKind.u64.wrap ((IntKind.u64.wrap ((IntKind.u64.wrap ((IntKind.u64.wrap ((r 5) + 1)) + 0)) + 0)) + 0)) + 0)) + 2147483648)) + 0)))
theorem l28_5 (r0 r : Nat → Int) : loopO stepk28_1 (9, 5, 1, 0, r0, r) = some (53, 5, r0, c28_5 r) := iterO_loop (n := 8) (by kernel_rfl)
theorem s28_5 (r0 r : Nat → Int) : stepk28_0 (9, 5, r0, r) = some (.inl (53, 6, r0, c28_5 r)) := by
  have h : stepk28_0 (9, 5, r0, r) = (loopO stepk28_1 (9, 5, 1, 0, r0, r)).bind fun z => some (.inl (z.1, (IntKind.i64.wrap (z.2.1 + 1)), z.2.2.1, z.2.2.2)) := by kernel_rfl
  rw [h, l28_5]
  rfl
def c28_6 (r : Nat → Int) : Nat → Int := (upd (upd (upd (upd (upd (upd (upd r 6 (IntKind.u64.wrap ((r 6) + 1))) 6 (IntKind.u64.wrap ((IntKind.u64.wrap ((r 6) + 1)) + 0))) 6 (IntKind.u64.wrap ((IntKind.u64.wrap ((IntKind.u64.wrap ((r 6) + 1)) + 0)) + 0))) 6 (IntKind.u64.wrap ((IntKind.u64.wrap ((IntKind.u64.wrap ((IntKind.u64.wrap ((r 6) + 1)) + 0)) + 0)) + 128))) 6 (IntKind.u64.wrap ((IntKind.u64.wrap ((IntKind.u64.wrap ((IntKind.u64.wrap ((IntKind.u64.wrap ((r 6) + 1)) + 0)) + 0)) + 128)) + 32768))) 6 (IntKind.u64.wrap ((IntKind.u64.wrap ((IntKind.u64.wrap ((IntKind.u64.wrap ((IntKind.u64.wrap ((IntKind.u64.wrap ((r 6) + 1)) + 0)) + 0)) + 128)) + 32768)) + 2147483648))) 6 (IntKind.u64.wrap ((IntKind.u64.wrap ((IntKind.u64.wrap ((IntKind.u64.wrap ((IntKind.u64.wrap ((IntKind.u64.wrap ((IntKind.u64.wrap ((r 6) + 1)) + 0)) + 0)) + 128)) + 32768)) + 2147483648)) + 9223372036854775808)))
theorem l28_6 (r0 r : Nat → Int) : loopO stepk28_1 (53, 6, 1, 0, r0, r) = some (79, 6, r0, c28_6 r) := iterO_loop (n := 8) (by kernel_rfl)
theorem s28_6 (r0 r : Nat → Int) : stepk28_0 (53, 6, r0, r) = some (.inl (79, 7, r0, c28_6 r)) := by
  have h : stepk28_0 (53, 6, r0, r) = (loopO stepk28_1 (53, 6, 1, 0, r0, r)).bind fun z => some (.inl (z.1, (IntKind.i64.wrap (z.2.1 + 1)), z.2.2.1, z.2.2.2)) := by kernel_rfl
  rw [h, l28_6]
  rfl
def c28_7 (r : Nat → Int) : Nat → Int := (upd (upd (upd (upd (upd (upd (upd r 7 (IntKind.u64.wrap ((r 7) + 1))) 7 (IntKind.u64.wrap ((IntKind.u64.wrap ((r 7) + 1)) + 0))) 7 (IntKind.u64.wrap ((IntKind.u64.wrap ((IntKind.u64.wrap ((r 7) + 1)) + 0)) + 8))) 7 (IntKind.u64.wrap ((IntKind.u64.wrap ((IntKind.u64.wrap ((IntKind.u64.wrap ((r 7) + 1)) + 0)) + 8)) + 0))) 7 (IntKind.u64.wrap ((IntKind.u64.wrap ((IntKind.u64.wrap ((IntKind.u64.wrap ((IntKind.u64.wrap ((r 7) + 1)) + 0)) + 8)) + 0)) + 32768))) 7 (IntKind.u64.wrap ((IntKind.u64.wrap ((IntKind.u64.wrap ((IntKind.u64.wrap ((IntKind.u64.wrap ((IntKind.u64.wrap ((r 7) + 1)) + 0)) + 8)) + 0)) + 32768)) + 0))) 7 (IntKind.u64.wrap ((IntKind.u64.wrap ((IntKind.u64.wrap ((IntKind.u64.wrap ((IntKind.u64.wrap ((IntKind.u64.wrap ((IntKind.u64.wrap ((r 7) + 1)) + 0)) + 8)) + 0)) + 32768)) + 0)) + 9223372036854775808)))
theorem l28_7 (r0 r : Nat → Int) : loopO stepk28_1 (79, 7, 1, 0, r0, r) = some (202, 7, r0, c28_7 r) := iterO_loop (n := 8) (by kernel_rfl)
theorem s28_7 (r0 r : Nat → Int) : stepk28_0 (79, 7, r0, r) = some (.inl (202, 8, r0, c28_7 r)) := by
  have h : stepk28_0 (79, 7, r0, r) = (loopO stepk28_1 (79, 7, 1, 0, r0, r)).bind fun z => some (.inl (z.1, (IntKind.i64.wrap (z.2.1 + 1)), z.2.2.1, z.2.2.2)) := by kernel_rfl
  rw [h, l28_7]
  rfl
def c28_8 (r : Nat → Int) : Nat → Int := (upd (upd (upd (upd (upd (upd (upd r 8 (IntKind.u64.wrap ((r 8) + 0))) 8 (IntKind.u64.wrap ((IntKind.u64.wrap ((r 8) + 0)) + 2))) 8 (IntKind.u64.wrap ((IntKind.u64.wrap ((IntKind.u64.wrap ((r 8) + 0)) + 2)) + 8))) 8 (IntKind.u64.wrap ((IntKind.u64.wrap ((IntKind.u64.wrap ((IntKind.u64.wrap ((r 8) + 0)) + 2)) + 8)) + 128))) 8 (IntKind.u64.wrap ((IntKind.u64.wrap ((IntKind.u64.wrap ((IntKind.u64.wrap ((IntKind.u64.wrap ((r 8) + 0)) + 2)) + 8)) + 128)) + 0))) 8 (IntKind.u64.wrap ((IntKind.u64.wrap ((IntKind.u64.wrap ((IntKind.u64.wrap ((IntKind.u64.wrap ((IntKind.u64.wrap ((r 8) + 0)) + 2)) + 8)) + 128)) + 0)) + 0))) 8 (IntKind.u64.wrap ((IntKind.u64.wrap ((IntKind.u64.wrap ((IntKind.u64.wrap ((IntKind.u64.wrap ((IntKind.u64.wrap ((IntKind.u64.wrap ((r 8) + 0)) + 2)) + 8)) + 128)) + 0)) + 0)) + 0)))
theorem l28_8 (r0 r : Nat → Int) : loopO stepk28_1 (202, 8, 1, 0, r0, r) = some (112, 8, r0, c28_8 r) := iterO_loop (n := 8) (by kernel_rfl)
theorem s28_8 (r0 r : Nat → Int) : stepk28_0 (202, 8, r0, r) = some (.inl (112, 9, r0, c28_8 r)) := by
  have h : stepk28_0 (202, 8, r0, r) = (loopO stepk28_1 (202, 8, 1, 0, r0, r)).bind fun z => some (.inl (z.1, (IntKind.i64.wrap (z.2.1 + 1)), z.2.2.1, z.2.2.2)) := by kernel_rfl
  rw [h, l28_8]
  rfl
def c28_9 (r : Nat → Int) : Nat → Int := (upd (upd (upd (upd (upd (upd (upd r 9 (IntKind.u64.wrap ((r 9) + 0))) 9 (IntKind.u64.wrap ((IntKind.u64.wrap ((r 9) + 0)) + 0))) 9 (IntKind.u64.wrap ((IntKind.u64.wrap ((IntKind.u64.wrap ((r 9) + 0)) + 0)) + 8))) 9 (IntKind.u64.wrap ((IntKind.u64.wrap ((IntKind.u64.wrap ((IntKind.u64.wrap ((r 9) + 0)) + 0)) + 8)) + 128))) 9 (IntKind.u64.wrap ((IntKind.u64.wrap ((IntKind.u64.wrap ((IntKind.u64.wrap ((IntKind.u64.wrap ((r 9) + 0)) + 0)) + 8)) + 128)) + 0))) 9 (IntKind.u64.wrap ((IntKind.u64.wrap ((IntKind.u64.wrap ((IntKind.u64.wrap ((IntKind.u64.wrap ((IntKind.u64.wrap ((r 9) + 0)) + 0)) + 8)) + 128)) + 0)) + 0))) 9 (IntKind.u64.wrap ((IntKind.u64.wrap ((IntKind.u64.wrap ((IntKind.u64.wrap ((IntKind.u64.wrap ((IntKind.u64.wrap ((IntKind.u64.wrap ((r 9) + 0)) + 0)) + 8)) + 128)) + 0)) + 0)) + 0)))
theorem l28_9 (r0 r : Nat → Int) : loopO stepk28_1 (112, 9, 1, 0, r0, r) = some (65, 9, r0, c28_9 r) := iterO_loop (n := 8) (by kernel_rfl)
theorem s28_9 (r0 r : Nat → Int) : stepk28_0 (112, 9, r0, r) = some (.inl (65, 10, r0, c28_9 r)) := by
  have h : stepk28_0 (112, 9, r0, r) = (loopO stepk28_1 (112, 9, 1, 0, r0, r)).bind fun z => some (.inl (z.1, (IntKind.i64.wrap (z.2.1 + 1)), z.2.2.1, z.2.2.2)) := by kernel_rfl
  rw [h, l28_9]
  rfl
def c28_10 (r : Nat → Int) : Nat → Int := (upd (upd (upd (upd (upd (upd (upd r 10 (IntKind.u64.wrap ((r 10) + 1))) 10 (IntKind.u64.wrap ((IntKind.u64.wrap ((r 10) + 1)) + 0))) 10 (IntKind.u64.wrap ((IntKind.u64.wrap ((IntKind.u64.wrap ((r 10) + 1)) + 0)) + 8))) 10 (IntKind.u64.wrap ((IntKind.u64.wrap ((IntKind.u64.wrap ((IntKind.u64.wrap ((r 10) + 1)) + 0)) + 8)) + 0))) 10 (IntKind.u64.wrap ((IntKind.u64.wrap ((IntKind.u64.wrap ((IntKind.u64.wrap ((IntKind.u64.wrap ((r 10) + 1)) + 0)) + 8)) + 0)) + 32768))) 10 (IntKind.u64.wrap ((IntKind.u64.wrap ((IntKind.u64.wrap ((IntKind.u64.wrap ((IntKind.u64.wrap ((IntKind.u64.wrap ((r 10) + 1)) + 0)) + 8)) + 0)) + 32768)) + 2147483648))) 10 (IntKind.u64.wrap ((IntKind.u64.wrap ((IntKind.u64.wrap ((IntKind.u64.wrap ((IntKind.u64.wrap ((IntKind.u64.wrap ((IntKind.u64.wrap ((r 10) + 1)) + 0)) + 8)) + 0)) + 32768)) + 2147483648)) + 0)))
theorem l28_10 (r0 r : Nat → Int) : loopO stepk28_1 (65, 10, 1, 0, r0, r) = some (236, 10, r0, c28_10 r) := iterO_loop (n := 8) (by kernel_rfl)
theorem s28_10 (r0 r : Nat → Int) : stepk28_0 (65, 10, r0, r) = some (.inl (236, 11, r0, c28_10 r)) := by
  have h : stepk28_0 (65, 10, r0, r) = (loopO stepk28_1 (65, 10, 1, 0, r0, r)).bind fun z => some (.inl (z.1, (IntKind.i64.wrap (z.2.1 + 1)), z.2.2.1, z.2.2.2)) := by kernel_rfl
  rw [h, l28_10]
  rfl
def c28_11 (r : Nat → Int) : Nat → Int := (upd (upd (upd (upd (upd (upd (upd r 11 (IntKind.u64.wrap ((r 11) + 0))) 11 (IntKind.u64.wrap ((IntKind.u64.wrap ((r 11) + 0)) + 2))) 11 (IntKind.u64.wrap ((IntKind.u64.wrap ((IntKind.u64.wrap ((r 11) + 0)) + 2)) + 8))) 11 (IntKind.u64.wrap ((IntKind.u64.wrap ((IntKind.u64.wrap ((IntKind.u64.wrap ((r 11) + 0)) + 2)) + 8)) + 0))) 11 (IntKind.u64.wrap ((IntKind.u64.wrap ((IntKind.u64.wrap ((IntKind.u64.wrap ((IntKind.u64.wrap ((r 11) + 0)) + 2)) + 8)) + 0)) + 0))) 11 (IntKind.u64.wrap ((IntKind.u64.wrap ((IntKind.u64.wrap ((IntKind.u64.wrap ((IntKind.u64.wrap ((IntKind.u64.wrap ((r 11) + 0)) + 2)) + 8)) + 0)) + 0)) + 2147483648))) 11 (IntKind.u64.wrap ((IntKind.u64.wrap ((IntKind.u64.wrap ((IntKind.u64.wrap ((IntKind.u64.wrap ((IntKind.u64.wrap ((IntKind.u64.wrap ((r 11) + 0)) + 2)) + 8)) + 0)) + 0)) + 2147483648)) + 0)))
theorem l28_11 (r0 r : Nat → Int) : loopO stepk28_1 (236, 11, 1, 0, r0, r) = some (213, 11, r0, c28_11 r) := iterO_loop (n := 8) (by kernel_rfl)
theorem s28_11 (r0 r : Nat → Int) : stepk28_0 (236, 11, r0, r) = some (.inl (213, 12, r0, c28_11 r)) := by
  have h : stepk28_0 (236, 11, r0, r) = (loopO stepk28_1 (236, 11, 1, 0, r0, r)).bind fun z => some (.inl (z.1, (IntKind.i64.wrap (z.2.1 + 1)), z.2.2.1, z.2.2.2)) := by kernel_rfl
  rw [h, l28_11]
  rfl
def c28_12 (r : Nat → Int) : Nat → Int := (upd (upd (upd (upd (upd (upd (upd r 12 (IntKind.u64.wrap ((r 12) + 1))) 12 (IntKind.u64.wrap ((IntKind.u64.wrap ((r 12) + 1)) + 2))) 12 (IntKind.u64.wrap ((IntKind.u64.wrap ((IntKind.u64.wrap ((r 12) + 1)) + 2)) + 8))) 12 (IntKind.u64.wrap ((IntKind.u64.wrap ((IntKind.u64.wrap ((IntKind.u64.wrap ((r 12) + 1)) + 2)) + 8)) + 128))) 12 (IntKind.u64.wrap ((IntKind.u64.wrap ((IntKind.u64.wrap ((IntKind.u64.wrap ((IntKind.u64.wrap ((r 12) + 1)) + 2)) + 8)) + 128)) + 32768))) 12 (IntKind.u64.wrap ((IntKind.u64.wrap ((IntKind.u64.wrap ((IntKind.u64.wrap ((IntKind.u64.wrap ((IntKind.u64.wrap ((r 12) + 1)) + 2)) + 8)) + 128)) + 32768)) + 2147483648))) 12 (IntKind.u64.wrap ((IntKind.u64.wrap ((IntKind.u64.wrap ((IntKind.u64.wrap ((IntKind.u64.wrap ((IntKind.u64.wrap ((IntKind.u64.wrap ((r 12) + 1)) + 2)) + 8)) + 128)) + 32768)) + 2147483648)) + 0)))
theorem l28_12 (r0 r : Nat → Int) : loopO stepk28_1 (213, 12, 1, 0, r0, r) = some (205, 12, r0, c28_12 r) := iterO_loop (n := 8) (by kernel_rfl)
theorem s28_12 (r0 r : Nat → Int) : stepk28_0 (213, 12, r0, r) = some (.inl (205, 13, r0, c28_12 r)) := by
  have h : stepk28_0 (213, 12, r0, r) = (loopO stepk28_1 (213, 12, 1, 0, r0, r)).bind fun z => some (.inl (z.1, (IntKind.i64.wrap (z.2.1 + 1)), z.2.2.1, z.2.2.2)) := by kernel_rfl
  rw [h, l28_12]
  rfl
def c28_13 (r : Nat → Int) : Nat → Int := (upd (upd (upd (upd (upd (upd (upd r 13 (IntKind.u64.wrap ((r 13) + 1))) 13 (IntKind.u64.wrap ((IntKind.u64.wrap ((r 13) + 1)) + 2))) 13 (IntKind.u64.wrap ((IntKind.u64.wrap ((IntKind.u64.wrap ((r 13) + 1)) + 2)) + 8))) 13 (IntKind.u64.wrap ((IntKind.u64.wrap ((IntKind.u64.wrap ((IntKind.u64.wrap ((r 13) + 1)) + 2)) + 8)) + 128))) 13 (IntKind.u64.wrap ((IntKind.u64.wrap ((IntKind.u64.wrap ((IntKind.u64.wrap ((IntKind.u64.wrap ((r 13) + 1)) + 2)) + 8)) + 128)) + 0))) 13 (IntKind.u64.wrap ((IntKind.u64.wrap ((IntKind.u64.wrap ((IntKind.u64.wrap ((IntKind.u64.wrap ((IntKind.u64.wrap ((r 13) + 1)) + 2)) + 8)) + 128)) + 0)) + 0))) 13 (IntKind.u64.wrap ((IntKind.u64.wrap ((IntKind.u64.wrap ((IntKind.u64.wrap ((IntKind.u64.wrap ((IntKind.u64.wrap ((IntKind.u64.wrap ((r 13) + 1)) + 2)) + 8)) + 128)) + 0)) + 0)) + 9223372036854775808)))
theorem l28_13 (r0 r : Nat → Int) : loopO stepk28_1 (205, 13, 1, 0, r0, r) = some (99, 13, r0, c28_13 r) := iterO_loop (n := 8) (by kernel_rfl)
theorem s28_13 (r0 r : Nat → Int) : stepk28_0 (205, 13, r0, r) = some (.inl (99, 14, r0, c28_13 r)) := by
  have h : stepk28_0 (205, 13, r0, r) = (loopO stepk28_1 (205, 13, 1, 0, r0, r)).bind fun z => some (.inl (z.1, (IntKind.i64.wrap (z.2.1 + 1)), z.2.2.1, z.2.2.2)) := by kernel_rfl
  rw [h, l28_13]
  rfl
def c28_14 (r : Nat → Int) : Nat → Int := (upd (upd (upd (upd (upd (upd (upd r 14 (IntKind.u64.wrap ((r 14) + 1))) 14 (IntKind.u64.wrap ((IntKind.u64.wrap ((r 14) + 1)) + 0))) 14 (IntKind.u64.wrap ((IntKind.u64.wrap ((IntKind.u64.wrap ((r 14) + 1)) + 0)) + 8))) 14 (IntKind.u64.wrap ((IntKind.u64.wrap ((IntKind.u64.wrap ((IntKind.u64.wrap ((r 14) + 1)) + 0)) + 8)) + 128))) 14 (IntKind.u64.wrap ((IntKind.u64.wrap ((IntKind.u64.wrap ((IntKind.u64.wrap ((IntKind.u64.wrap ((r 14) + 1)) + 0)) + 8)) + 128)) + 32768))) 14 (IntKind.u64.wrap ((IntKind.u64.wrap ((IntKind.u64.wrap ((IntKind.u64.wrap ((IntKind.u64.wrap ((IntKind.u64.wrap ((r 14) + 1)) + 0)) + 8)) + 128)) + 32768)) + 0))) 14 (IntKind.u64.wrap ((IntKind.u64.wrap ((IntKind.u64.wrap ((IntKind.u64.wrap ((IntKind.u64.wrap ((IntKind.u64.wrap ((IntKind.u64.wrap ((r 14) + 1)) + 0)) + 8)) + 128)) + 32768)) + 0)) + 9223372036854775808)))
theorem l28_14 (r0 r : Nat → Int) : loopO stepk28_1 (99, 14, 1, 0, r0, r) = some (171, 14, r0, c28_14 r) := iterO_loop (n := 8) (by kernel_rfl)
theorem s28_14 (r0 r : Nat → Int) : stepk28_0 (99, 14, r0, r) = some (.inl (171, 15, r0, c28_14 r)) := by
  have h : stepk28_0 (99, 14, r0, r) = (loopO stepk28_1 (99, 14, 1, 0, r0, r)).bind fun z => some (.inl (z.1, (IntKind.i64.wrap (z.2.1 + 1)), z.2.2.1, z.2.2.2)) := by kernel_rfl
  rw [h, l28_14]
  rfl
def c28_15 (r : Nat → Int) : Nat → Int := (upd (upd (upd (upd (upd (upd (upd r 15 (IntKind.u64.wrap ((r 15) + 1))) 15 (IntKind.u64.wrap ((IntKind.u64.wrap ((r 15) + 1)) + 2))) 15 (IntKind.u64.wrap ((IntKind.u64.wrap ((IntKind.u64.wrap ((r 15) + 1)) + 2)) + 0))) 15 (IntKind.u64.wrap ((IntKind.u64.wrap ((IntKind.u64.wrap ((IntKind.u64.wrap ((r 15) + 1)) + 2)) + 0)) + 0))) 15 (IntKind.u64.wrap ((IntKind.u64.wrap ((IntKind.u64.wrap ((IntKind.u64.wrap ((IntKind.u64.wrap ((r 15) + 1)) + 2)) + 0)) + 0)) + 32768))) 15 (IntKind.u64.wrap ((IntKind.u64.wrap ((IntKind.u64.wrap ((IntKind.u64.wrap ((IntKind.u64.wrap ((IntKind.u64.wrap ((r 15) + 1)) + 2)) + 0)) + 0)) + 32768)) + 0))) 15 (IntKind.u64.wrap ((IntKind.u64.wrap ((IntKind.u64.wrap ((IntKind.u64.wrap ((IntKind.u64.wrap ((IntKind.u64.wrap ((IntKind.u64.wrap ((r 15) + 1)) + 2)) + 0)) + 0)) + 32768)) + 0)) + 9223372036854775808)))
theorem l28_15 (r0 r : Nat → Int) : loopO stepk28_1 (171, 15, 1, 0, r0, r) = some (170, 15, r0, c28_15 r) := iterO_loop (n := 8) (by kernel_rfl)
theorem s28_15 (r0 r : Nat → Int) : stepk28_0 (171, 15, r0, r) = some (.inl (170, 16, r0, c28_15 r)) := by
  have h : stepk28_0 (171, 15, r0, r) = (loopO stepk28_1 (171, 15, 1, 0, r0, r)).bind fun z => some (.inl (z.1, (IntKind.i64.wrap (z.2.1 + 1)), z.2.2.1, z.2.2.2)) := by kernel_rfl
  rw [h, l28_15]
  rfl
def c28_16 (r : Nat → Int) : Nat → Int := (upd (upd (upd (upd (upd (upd (upd r 16 (IntKind.u64.wrap ((r 16) + 0))) 16 (IntKind.u64.wrap ((IntKind.u64.wrap ((r 16) + 0)) + 2))) 16 (IntKind.u64.wrap ((IntKind.u64.wrap ((IntKind.u64.wrap ((r 16) + 0)) + 2)) + 0))) 16 (IntKind.u64.wrap ((IntKind.u64.wrap ((IntKind.u64.wrap ((IntKind.u64.wrap ((r 16) + 0)) + 2)) + 0)) + 0))) 16 (IntKind.u64.wrap ((IntKind.u64.wrap ((IntKind.u64.wrap ((IntKind.u64.wrap ((IntKind.u64.wrap ((r 16) + 0)) + 2)) + 0)) + 0)) + 32768))) 16 (IntKind.u64.wrap ((IntKind.u64.wrap ((IntKind.u64.wrap ((IntKind.u64.wrap ((IntKind.u64.wrap ((IntKind.u64.wrap ((r 16) + 0)) + 2)) + 0)) + 0)) + 32768)) + 0))) 16 (IntKind.u64.wrap ((IntKind.u64.wrap ((IntKind.u64.wrap ((IntKind.u64.wrap ((IntKind.u64.wrap ((IntKind.u64.wrap ((IntKind.u64.wrap ((r 16) + 0)) + 2)) + 0)) + 0)) + 32768)) + 0)) + 9223372036854775808)))
theorem l28_16 (r0 r : Nat → Int) : loopO stepk28_1 (170, 16, 1, 0, r0, r) = some (42, 16, r0, c28_16 r) := iterO_loop (n := 8) (by kernel_rfl)
theorem s28_16 (r0 r : Nat → Int) : stepk28_0 (170, 16, r0, r) = some (.inl (42, 17, r0, c28_16 r)) := by
  have h : stepk28_0 (170, 16, r0, r) = (loopO stepk28_1 (170, 16, 1, 0, r0, r)).bind fun z => some (.inl (z.1, (IntKind.i64.wrap (z.2.1 + 1)), z.2.2.1, z.2.2.2)) := by kernel_rfl
  rw [h, l28_16]
  rfl
def c28_17 (r : Nat → Int) : Nat → Int := (upd (upd (upd (upd (upd (upd (upd r 17 (IntKind.u64.wrap ((r 17) + 0))) 17 (IntKind.u64.wrap ((IntKind.u64.wrap ((r 17) + 0)) + 0))) 17 (IntKind.u64.wrap ((IntKind.u64.wrap ((IntKind.u64.wrap ((r 17) + 0)) + 0)) + 0))) 17 (IntKind.u64.wrap ((IntKind.u64.wrap ((IntKind.u64.wrap ((IntKind.u64.wrap ((r 17) + 0)) + 0)) + 0)) + 128))) 17 (IntKind.u64.wrap ((IntKind.u64.wrap ((IntKind.u64.wrap ((IntKind.u64.wrap ((IntKind.u64.wrap ((r 17) + 0)) + 0)) + 0)) + 128)) + 0))) 17 (IntKind.u64.wrap ((IntKind.u64.wrap ((IntKind.u64.wrap ((IntKind.u64.wrap ((IntKind.u64.wrap ((IntKind.u64.wrap ((r 17) + 0)) + 0)) + 0)) + 128)) + 0)) + 0))) 17 (IntKind.u64.wrap ((IntKind.u64.wrap ((IntKind.u64.wrap ((IntKind.u64.wrap ((IntKind.u64.wrap ((IntKind.u64.wrap ((IntKind.u64.wrap ((r 17) + 0)) + 0)) + 0)) + 128)) + 0)) + 0)) + 9223372036854775808)))
theorem l28_17 (r0 r : Nat → Int) : loopO stepk28_1 (42, 17, 1, 0, r0, r) = some (242, 17, r0, c28_17 r) := iterO_loop (n := 8) (by kernel_rfl)
theorem s28_17 (r0 r : Nat → Int) : stepk28_0 (42, 17, r0, r) = some (.inl (242, 18, r0, c28_17 r)) := by
  have h : stepk28_0 (42, 17, r0, r) = (loopO stepk28_1 (42, 17, 1, 0, r0, r)).bind fun z => some (.inl (z.1, (IntKind.i64.wrap (z.2.1 + 1)), z.2.2.1, z.2.2.2)) := by kernel_rfl
  rw [h, l28_17]
  rfl
def c28_18 (r : Nat → Int) : Nat → Int := (upd (upd (upd (upd (upd (upd (upd r 18 (IntKind.u64.wrap ((r 18) + 0))) 18 (IntKind.u64.wrap ((IntKind.u64.wrap ((r 18) + 0)) + 2))) 18 (IntKind.u64.wrap ((IntKind.u64.wrap ((IntKind.u64.wrap ((r 18) + 0)) + 2)) + 8))) 18 (IntKind.u64.wrap ((IntKind.u64.wrap ((IntKind.u64.wrap ((IntKind.u64.wrap ((r 18) + 0)) + 2)) + 8)) + 0))) 18 (IntKind.u64.wrap ((IntKind.u64.wrap ((IntKind.u64.wrap ((IntKind.u64.wrap ((IntKind.u64.wrap ((r 18) + 0)) + 2)) + 8)) + 0)) + 32768))) 18 (IntKind.u64.wrap ((IntKind.u64.wrap ((IntKind.u64.wrap ((IntKind.u64.wrap ((IntKind.u64.wrap ((IntKind.u64.wrap ((r 18) + 0)) + 2)) + 8)) + 0)) + 32768)) + 0))) 18 (IntKind.u64.wrap ((IntKind.u64.wrap ((IntKind.u64.wrap ((IntKind.u64.wrap ((IntKind.u64.wrap ((IntKind.u64.wrap ((IntKind.u64.wrap ((r 18) + 0)) + 2)) + 8)) + 0)) + 32768)) + 0)) + 0)))
theorem l28_18 (r0 r : Nat → Int) : loopO stepk28_1 (242, 18, 1, 0, r0, r) = some (232, 18, r0, c28_18 r) := iterO_loop (n := 8) (by kernel_rfl)
theorem s28_18 (r0 r : Nat → Int) : stepk28_0 (242, 18, r0, r) = some (.inl (232, 19, r0, c28_18 r)) := by
  have h : stepk28_0 (242, 18, r0, r) = (loopO stepk28_1 (242, 18, 1, 0, r0, r)).bind fun z => some (.inl (z.1, (IntKind.i64.wrap (z.2.1 + 1)), z.2.2.1, z.2.2.2)) := by kernel_rfl
  rw [h, l28_18]
  rfl
def c28_19 (r : Nat → Int) : Nat → Int := (upd (upd (upd (upd (upd (upd (upd r 19 (IntKind.u64.wrap ((r 19) + 0))) 19 (IntKind.u64.wrap ((IntKind.u64.wrap ((r 19) + 0)) + 2))) 19 (IntKind.u64.wrap ((IntKind.u64.wrap ((IntKind.u64.wrap ((r 19) + 0)) + 2)) + 8))) 19 (IntKind.u64.wrap ((IntKind.u64.wrap ((IntKind.u64.wrap ((IntKind.u64.wrap ((r 19) + 0)) + 2)) + 8)) + 0))) 19 (IntKind.u64.wrap ((IntKind.u64.wrap ((IntKind.u64.wrap ((IntKind.u64.wrap ((IntKind.u64.wrap ((r 19) + 0)) + 2)) + 8)) + 0)) + 0))) 19 (IntKind.u64.wrap ((IntKind.u64.wrap ((IntKind.u64.wrap ((IntKind.u64.wrap ((IntKind.u64.wrap ((IntKind.u64.wrap ((r 19) + 0)) + 2)) + 8)) + 0)) + 0)) + 2147483648))) 19 (IntKind.u64.wrap ((IntKind.u64.wrap ((IntKind.u64.wrap ((IntKind.u64.wrap ((IntKind.u64.wrap ((IntKind.u64.wrap ((IntKind.u64.wrap ((r 19) + 0)) + 2)) + 8)) + 0)) + 0)) + 2147483648)) + 9223372036854775808)))
theorem l28_19 (r0 r : Nat → Int) : loopO stepk28_1 (232, 19, 1, 0, r0, r) = some (55, 19, r0, c28_19 r) := iterO_loop (n := 8) (by kernel_rfl)
theorem s28_19 (r0 r : Nat → Int) : stepk28_0 (232, 19, r0, r) = some (.inl (55, 20, r0, c28_19 r)) := by
  have h : stepk28_0 (232, 19, r0, r) = (loopO stepk28_1 (232, 19, 1, 0, r0, r)).bind fun z => some (.inl (z.1, (IntKind.i64.wrap (z.2.1 + 1)), z.2.2.1, z.2.2.2)) := by kernel_rfl
  rw [h, l28_19]
  rfl
def c28_20 (r : Nat → Int) : Nat → Int := (upd (upd (upd (upd (upd (upd (upd r 20 (IntKind.u64.wrap ((r 20) + 1))) 20 (IntKind.u64.wrap ((IntKind.u64.wrap ((r 20) + 1)) + 0))) 20 (IntKind.u64.wrap ((IntKind.u64.wrap ((IntKind.u64.wrap ((r 20) + 1)) + 0)) + 0))) 20 (IntKind.u64.wrap ((IntKind.u64.wrap ((IntKind.u64.wrap ((IntKind.u64.wrap ((r 20) + 1)) + 0)) + 0)) + 128))) 20 (IntKind.u64.wrap ((IntKind.u64.wrap ((IntKind.u64.wrap ((IntKind.u64.wrap ((IntKind.u64.wrap ((r 20) + 1)) + 0)) + 0)) + 128)) + 32768))) 20 (IntKind.u64.wrap ((IntKind.u64.wrap ((IntKind.u64.wrap ((IntKind.u64.wrap ((IntKind.u64.wrap ((IntKind.u64.wrap ((r 20) + 1)) + 0)) + 0)) + 128)) + 32768)) + 2147483648))) 20 (IntKind.u64.wrap ((IntKind.u64.wrap ((IntKind.u64.wrap ((IntKind.u64.wrap ((IntKind.u64.wrap ((IntKind.u64.wrap ((IntKind.u64.wrap ((r 20) + 1)) + 0)) + 0)) + 128)) + 32768)) + 2147483648)) + 9223372036854775808)))
theorem l28_20 (r0 r : Nat → Int) : loopO stepk28_1 (55, 20, 1, 0, r0, r) = some (62, 20, r0, c28_20 r) := iterO_loop (n := 8) (by kernel_rfl)
theorem s28_20 (r0 r : Nat → Int) : stepk28_0 (55, 20, r0, r) = some (.inl (62, 21, r0, c28_20 r)) := by
  have h : stepk28_0 (55, 20, r0, r) = (loopO stepk28_1 (55, 20, 1, 0, r0, r)).bind fun z => some (.inl (z.1, (IntKind.i64.wrap (z.2.1 + 1)), z.2.2.1, z.2.2.2)) := by kernel_rfl
  rw [h, l28_20]
  rfl
def c28_21 (r : Nat → Int) : Nat → Int := (upd (upd (upd (upd (upd (upd (upd r 21 (IntKind.u64.wrap ((r 21) + 0))) 21 (IntKind.u64.wrap ((IntKind.u64.wrap ((r 21) + 0)) + 0))) 21 (IntKind.u64.wrap ((IntKind.u64.wrap ((IntKind.u64.wrap ((r 21) + 0)) + 0)) + 0))) 21 (IntKind.u64.wrap ((IntKind.u64.wrap ((IntKind.u64.wrap ((IntKind.u64.wrap ((r 21) + 0)) + 0)) + 0)) + 128))) 21 (IntKind.u64.wrap ((IntKind.u64.wrap ((IntKind.u64.wrap ((IntKind.u64.wrap ((IntKind.u64.wrap ((r 21) + 0)) + 0)) + 0)) + 128)) + 32768))) 21 (IntKind.u64.wrap ((IntKind.u64.wrap ((IntKind.u64.wrap ((IntKind.u64.wrap ((IntKind.u64.wrap ((IntKind.u64.wrap ((r 21) + 0)) + 0)) + 0)) + 128)) + 32768)) + 0))) 21 (IntKind.u64.wrap ((IntKind.u64.wrap ((IntKind.u64.wrap ((IntKind.u64.wrap ((IntKind.u64.wrap ((IntKind.u64.wrap ((IntKind.u64.wrap ((r 21) + 0)) + 0)) + 0)) + 128)) + 32768)) + 0)) + 9223372036854775808)))
theorem l28_21 (r0 r : Nat → Int) : loopO stepk28_1 (62, 21, 1, 0, r0, r) = some (11, 21, r0, c28_21 r) := iterO_loop (n := 8) (by kernel_rfl)
theorem s28_21 (r0 r : Nat → Int) : stepk28_0 (62, 21, r0, r) = some (.inl (11, 22, r0, c28_21 r)) := by
  have h : stepk28_0 (62, 21, r0, r) = (loopO stepk28_1 (62, 21, 1, 0, r0, r)).bind fun z => some (.inl (z.1, (IntKind.i64.wrap (z.2.1 + 1)), z.2.2.1, z.2.2.2)) := by kernel_rfl
  rw [h, l28_21]
  rfl
def c28_22 (r : Nat → Int) : Nat → Int := (upd (upd (upd (upd (upd (upd (upd r 22 (IntKind.u64.wrap ((r 22) + 1))) 22 (IntKind.u64.wrap ((IntKind.u64.wrap ((r 22) + 1)) + 0))) 22 (IntKind.u64.wrap ((IntKind.u64.wrap ((IntKind.u64.wrap ((r 22) + 1)) + 0)) + 0))) 22 (IntKind.u64.wrap ((IntKind.u64.wrap ((IntKind.u64.wrap ((IntKind.u64.wrap ((r 22) + 1)) + 0)) + 0)) + 0))) 22 (IntKind.u64.wrap ((IntKind.u64.wrap ((IntKind.u64.wrap ((IntKind.u64.wrap ((IntKind.u64.wrap ((r 22) + 1)) + 0)) + 0)) + 0)) + 0))) 22 (IntKind.u64.wrap ((IntKind.u64.wrap ((IntKind.u64.wrap ((IntKind.u64.wrap ((IntKind.u64.wrap ((IntKind.u64.wrap ((r 22) + 1)) + 0)) + 0)) + 0)) + 0)) + 2147483648))) 22 (IntKind.u64.wrap ((IntKind.u64.wrap ((IntKind.u64.wrap ((IntKind.u64.wrap ((IntKind.u64.wrap ((IntKind.u64.wrap ((IntKind.u64.wrap ((r 22) + 1)) + 0)) + 0)) + 0)) + 0)) + 2147483648)) + 0)))
theorem l28_22 (r0 r : Nat → Int) : loopO stepk28_1 (11, 22, 1, 0, r0, r) = some (68, 22, r0, c28_22 r) := iterO_loop (n := 8) (by kernel_rfl)
theorem s28_22 (r0 r : Nat → Int) : stepk28_0 (11, 22, r0, r) = some (.inl (68, 23, r0, c28_22 r)) := by
  have h : stepk28_0 (11, 22, r0, r) = (loopO stepk28_1 (11, 22, 1, 0, r0, r)).bind fun z => some (.inl (z.1, (IntKind.i64.wrap (z.2.1 + 1)), z.2.2.1, z.2.2.2)) := by kernel_rfl
  rw [h, l28_22]
  rfl
def c28_23 (r : Nat → Int) : Nat → Int := (upd (upd (upd (upd (upd (upd (upd r 23 (IntKind.u64.wrap ((r 23) + 0))) 23 (IntKind.u64.wrap ((IntKind.u64.wrap ((r 23) + 0)) + 0))) 23 (IntKind.u64.wrap ((IntKind.u64.wrap ((IntKind.u64.wrap ((r 23) + 0)) + 0)) + 8))) 23 (IntKind.u64.wrap ((IntKind.u64.wrap ((IntKind.u64.wrap ((IntKind.u64.wrap ((r 23) + 0)) + 0)) + 8)) + 0))) 23 (IntKind.u64.wrap ((IntKind.u64.wrap ((IntKind.u64.wrap ((IntKind.u64.wrap ((IntKind.u64.wrap ((r 23) + 0)) + 0)) + 8)) + 0)) + 32768))) 23 (IntKind.u64.wrap ((IntKind.u64.wrap ((IntKind.u64.wrap ((IntKind.u64.wrap ((IntKind.u64.wrap ((IntKind.u64.wrap ((r 23) + 0)) + 0)) + 8)) + 0)) + 32768)) + 2147483648))) 23 (IntKind.u64.wrap ((IntKind.u64.wrap ((IntKind.u64.wrap ((IntKind.u64.wrap ((IntKind.u64.wrap ((IntKind.u64.wrap ((IntKind.u64.wrap ((r 23) + 0)) + 0)) + 8)) + 0)) + 32768)) + 2147483648)) + 9223372036854775808)))
theorem l28_23 (r0 r : Nat → Int) : loopO stepk28_1 (68, 23, 1, 0, r0, r) = some (142, 23, r0, c28_23 r) := iterO_loop (n := 8) (by kernel_rfl)
theorem s28_23 (r0 r : Nat → Int) : stepk28_0 (68, 23, r0, r) = some (.inl (142, 24, r0, c28_23 r)) := by
  have h : stepk28_0 (68, 23, r0, r) = (loopO stepk28_1 (68, 23, 1, 0, r0, r)).bind fun z => some (.inl (z.1, (IntKind.i64.wrap (z.2.1 + 1)), z.2.2.1, z.2.2.2)) := by kernel_rfl
  rw [h, l28_23]
  rfl
def conF : Nat → Int := (c28_23 (c28_22 (c28_21 (c28_20 (c28_19 (c28_18 (c28_17 (c28_16 (c28_15 (c28_14 (c28_13 (c28_12 (c28_11 (c28_10 (c28_9 (c28_8 (c28_7 (c28_6 (c28_5 (c28_4 (c28_3 (c28_2 (c28_1 (c28_0 (fun _ => 0)))))))))))))))))))))))))
theorem Fk28_eq : Fk28 () = some conF := by
  have h : Fk28 () = (loopO stepk28_0 (1, 0, (fun _ => 0), (fun _ => 0))).bind fun z => some z.2 := by kernel_rfl
  rw [h]
  rw [loop_inl (s28_0 _ _)]
  rw [loop_inl (s28_1 _ _)]
  rw [loop_inl (s28_2 _ _)]
  rw [loop_inl (s28_3 _ _)]
  rw [loop_inl (s28_4 _ _)]
  rw [loop_inl (s28_5 _ _)]
  rw [loop_inl (s28_6 _ _)]
  rw [loop_inl (s28_7 _ _)]
  rw [loop_inl (s28_8 _ _)]
  rw [loop_inl (s28_9 _ _)]
  rw [loop_inl (s28_10 _ _)]
  rw [loop_inl (s28_11 _ _)]
  rw [loop_inl (s28_12 _ _)]
  rw [loop_inl (s28_13 _ _)]
  rw [loop_inl (s28_14 _ _)]
  rw [loop_inl (s28_15 _ _)]
  rw [loop_inl (s28_16 _ _)]
  rw [loop_inl (s28_17 _ _)]
  rw [loop_inl (s28_18 _ _)]
  rw [loop_inl (s28_19 _ _)]
  rw [loop_inl (s28_20 _ _)]
  rw [loop_inl (s28_21 _ _)]
  rw [loop_inl (s28_22 _ _)]
  rw [loop_inl (s28_23 _ _)]
  rw [iterO_loop (n := 1) (t := ((fun _ => 0), conF)) (by kernel_rfl)]
  rfl
def leftI (x k : Int) : Int := IntKind.u64.wrap (shlI .u64 x k + shrI .u64 x (64 - k))
theorem left_eq (x : Int) : Fk29 (x, 1) = some (leftI x 1) := by kernel_rfl
theorem l2_0 (t5 : Int) (r r2 r3 r4 r6 : Nat → Int) : loopO stepk10_2 (t5, 0, 0, 0, 0, r, r2, r3, r4, r6) = some (t5, 0, (bitsXor .u64 (bitsXor .u64 (bitsXor .u64 (bitsXor .u64 (bitsXor .u64 0 (r 4)) (r 9)) (r 14)) (r 19)) (r 24)), (bitsXor .u64 (bitsXor .u64 (bitsXor .u64 (bitsXor .u64 (bitsXor .u64 0 (r 1)) (r 6)) (r 11)) (r 16)) (r 21)), r, r2, r3, r4, r6) := iterO_loop (n := 6) (by kernel_rfl)
def d3_0 (r : Nat → Int) (p q : Int) (g : Nat → Int) : Nat → Int := (upd (upd (upd (upd (upd g 0 (bitsXor .u64 (bitsXor .u64 (r 0) p) (leftI q 1))) 5 (bitsXor .u64 (bitsXor .u64 (r 5) p) (leftI q 1))) 10 (bitsXor .u64 (bitsXor .u64 (r 10) p) (leftI q 1))) 15 (bitsXor .u64 (bitsXor .u64 (r 15) p) (leftI q 1))) 20 (bitsXor .u64 (bitsXor .u64 (r 20) p) (leftI q 1)))
theorem l3_0 (t5 p q : Int) (r r2 r3 r4 g : Nat → Int) : loopO stepk10_3 (t5, 0, p, q, 0, r, r2, r3, r4, g) = some (t5, 0, r, r2, r3, r4, d3_0 r p q g) := iterO_loop (n := 6) (by kernel_rfl)
def d1_0 (r : Nat → Int) (g : Nat → Int) : Nat → Int := d3_0 r (bitsXor .u64 (bitsXor .u64 (bitsXor .u64 (bitsXor .u64 (bitsXor .u64 0 (r 4)) (r 9)) (r 14)) (r 19)) (r 24)) (bitsXor .u64 (bitsXor .u64 (bitsXor .u64 (bitsXor .u64 (bitsXor .u64 0 (r 1)) (r 6)) (r 11)) (r 16)) (r 21)) g
theorem s1_0 (t5 : Int) (r r2 r3 r4 g : Nat → Int) : stepk10_1 (t5, 0, r, r2, r3, r4, g) = some (.inl (t5, 1, r, r2, r3, r4, d1_0 r g)) := by
  have h : stepk10_1 (t5, 0, r, r2, r3, r4, g) = (loopO stepk10_2 (t5, 0, 0, 0, 0, r, r2, r3, r4, g)).bind fun z => (loopO stepk10_3 (z.1, z.2.1, z.2.2.1, z.2.2.2.1, 0, z.2.2.2.2.1, z.2.2.2.2.2.1, z.2.2.2.2.2.2.1, z.2.2.2.2.2.2.2.1, z.2.2.2.2.2.2.2.2)).bind fun z => some (.inl (z.1, (IntKind.i64.wrap (z.2.1 + 1)), z.2.2.1, z.2.2.2.1, z.2.2.2.2.1, z.2.2.2.2.2.1, z.2.2.2.2.2.2)) := by kernel_rfl
  rw [h, l2_0]
  simp only [Option.bind_some]
  rw [l3_0]
  rfl
theorem l2_1 (t5 : Int) (r r2 r3 r4 r6 : Nat → Int) : loopO stepk10_2 (t5, 1, 0, 0, 0, r, r2, r3, r4, r6) = some (t5, 1, (bitsXor .u64 (bitsXor .u64 (bitsXor .u64 (bitsXor .u64 (bitsXor .u64 0 (r 0)) (r 5)) (r 10)) (r 15)) (r 20)), (bitsXor .u64 (bitsXor .u64 (bitsXor .u64 (bitsXor .u64 (bitsXor .u64 0 (r 2)) (r 7)) (r 12)) (r 17)) (r 22)), r, r2, r3, r4, r6) := iterO_loop (n := 6) (by kernel_rfl)
def d3_1 (r : Nat → Int) (p q : Int) (g : Nat → Int) : Nat → Int := (upd (upd (upd (upd (upd g 1 (bitsXor .u64 (bitsXor .u64 (r 1) p) (leftI q 1))) 6 (bitsXor .u64 (bitsXor .u64 (r 6) p) (leftI q 1))) 11 (bitsXor .u64 (bitsXor .u64 (r 11) p) (leftI q 1))) 16 (bitsXor .u64 (bitsXor .u64 (r 16) p) (leftI q 1))) 21 (bitsXor .u64 (bitsXor .u64 (r 21) p) (leftI q 1)))
theorem l3_1 (t5 p q : Int) (r r2 r3 r4 g : Nat → Int) : loopO stepk10_3 (t5, 1, p, q, 0, r, r2, r3, r4, g) = some (t5, 1, r, r2, r3, r4, d3_1 r p q g) := iterO_loop (n := 6) (by kernel_rfl)
def d1_1 (r : Nat → Int) (g : Nat → Int) : Nat → Int := d3_1 r (bitsXor .u64 (bitsXor .u64 (bitsXor .u64 (bitsXor .u64 (bitsXor .u64 0 (r 0)) (r 5)) (r 10)) (r 15)) (r 20)) (bitsXor .u64 (bitsXor .u64 (bitsXor .u64 (bitsXor .u64 (bitsXor .u64 0 (r 2)) (r 7)) (r 12)) (r 17)) (r 22)) g
theorem s1_1 (t5 : Int) (r r2 r3 r4 g : Nat → Int) : stepk10_1 (t5, 1, r, r2, r3, r4, g) = some (.inl (t5, 2, r, r2, r3, r4, d1_1 r g)) := by
  have h : stepk10_1 (t5, 1, r, r2, r3, r4, g) = (loopO stepk10_2 (t5, 1, 0, 0, 0, r, r2, r3, r4, g)).bind fun z => (loopO stepk10_3 (z.1, z.2.1, z.2.2.1, z.2.2.2.1, 0, z.2.2.2.2.1, z.2.2.2.2.2.1, z.2.2.2.2.2.2.1, z.2.2.2.2.2.2.2.1, z.2.2.2.2.2.2.2.2)).bind fun z => some (.inl (z.1, (IntKind.i64.wrap (z.2.1 + 1)), z.2.2.1, z.2.2.2.1, z.2.2.2.2.1, z.2.2.2.2.2.1, z.2.2.2.2.2.2)) := by kernel_rfl
  rw [h, l2_1]
  simp only [Option.bind_some]
  rw [l3_1]
  rfl
theorem l2_2 (t5 : Int) (r r2 r3 r4 r6 : Nat → Int) : loopO stepk10_2 (t5, 2, 0, 0, 0, r, r2, r3, r4, r6) = some (t5, 2, (bitsXor .u64 (bitsXor .u64 (bitsXor .u64 (bitsXor .u64 (bitsXor .u64 0 (r 1)) (r 6)) (r 11)) (r 16)) (r 21)), (bitsXor .u64 (bitsXor .u64 (bitsXor .u64 (bitsXor .u64 (bitsXor .u64 0 (r 3)) (r 8)) (r 13)) (r 18)) (r 23)), r, r2, r3, r4, r6) := iterO_loop (n := 6) (by kernel_rfl)
def d3_2 (r : Nat → Int) (p q : Int) (g : Nat → Int) : Nat → Int := (upd (upd (upd (upd (upd g 2 (bitsXor .u64 (bitsXor .u64 (r 2) p) (leftI q 1))) 7 (bitsXor .u64 (bitsXor .u64 (r 7) p) (leftI q 1))) 12 (bitsXor .u64 (bitsXor .u64 (r 12) p) (leftI q 1))) 17 (bitsXor .u64 (bitsXor .u64 (r 17) p) (leftI q 1))) 22 (bitsXor .u64 (bitsXor .u64 (r 22) p) (leftI q 1)))
theorem l3_2 (t5 p q : Int) (r r2 r3 r4 g : Nat → Int) : loopO stepk10_3 (t5, 2, p, q, 0, r, r2, r3, r4, g) = some (t5, 2, r, r2, r3, r4, d3_2 r p q g) := iterO_loop (n := 6) (by kernel_rfl)
def d1_2 (r : Nat → Int) (g : Nat → Int) : Nat → Int := d3_2 r (bitsXor .u64 (bitsXor .u64 (bitsXor .u64 (bitsXor .u64 (bitsXor .u64 0 (r 1)) (r 6)) (r 11)) (r 16)) (r 21)) (bitsXor .u64 (bitsXor .u64 (bitsXor .u64 (bitsXor .u64 (bitsXor .u64 0 (r 3)) (r 8)) (r 13)) (r 18)) (r 23)) g
theorem s1_2 (t5 : Int) (r r2 r3 r4 g : Nat → Int) : stepk10_1 (t5, 2, r, r2, r3, r4, g) = some (.inl (t5, 3, r, r2, r3, r4, d1_2 r g)) := by
  have h : stepk10_1 (t5, 2, r, r2, r3, r4, g) = (loopO stepk10_2 (t5, 2, 0, 0, 0, r, r2, r3, r4, g)).bind fun z => (loopO stepk10_3 (z.1, z.2.1, z.2.2.1, z.2.2.2.1, 0, z.2.2.2.2.1, z.2.2.2.2.2.1, z.2.2.2.2.2.2.1, z.2.2.2.2.2.2.2.1, z.2.2.2.2.2.2.2.2)).bind fun z => some (.inl (z.1, (IntKind.i64.wrap (z.2.1 + 1)), z.2.2.1, z.2.2.2.1, z.2.2.2.2.1, z.2.2.2.2.2.1, z.2.2.2.2.2.2)) := by kernel_rfl
  rw [h, l2_2]
  simp only [Option.bind_some]
  rw [l3_2]
  rfl
theorem l2_3 (t5 : Int) (r r2 r3 r4 r6 : Nat → Int) : loopO stepk10_2 (t5, 3, 0, 0, 0, r, r2, r3, r4, r6) = some (t5, 3, (bitsXor .u64 (bitsXor .u64 (bitsXor .u64 (bitsXor .u64 (bitsXor .u64 0 (r 2)) (r 7)) (r 12)) (r 17)) (r 22)), (bitsXor .u64 (bitsXor .u64 (bitsXor .u64 (bitsXor .u64 (bitsXor .u64 0 (r 4)) (r 9)) (r 14)) (r 19)) (r 24)), r, r2, r3, r4, r6) := iterO_loop (n := 6) (by kernel_rfl)
def d3_3 (r : Nat → Int) (p q : Int) (g : Nat → Int) : Nat → Int := (upd (upd (upd (upd (upd g 3 (bitsXor .u64 (bitsXor .u64 (r 3) p) (leftI q 1))) 8 (bitsXor .u64 (bitsXor .u64 (r 8) p) (leftI q 1))) 13 (bitsXor .u64 (bitsXor .u64 (r 13) p) (leftI q 1))) 18 (bitsXor .u64 (bitsXor .u64 (r 18) p) (leftI q 1))) 23 (bitsXor .u64 (bitsXor .u64 (r 23) p) (leftI q 1)))
theorem l3_3 (t5 p q : Int) (r r2 r3 r4 g : Nat → Int) : loopO stepk10_3 (t5, 3, p, q, 0, r, r2, r3, r4, g) = some (t5, 3, r, r2, r3, r4, d3_3 r p q g) := iterO_loop (n := 6) (by kernel_rfl)
def d1_3 (r : Nat → Int) (g : Nat → Int) : Nat → Int := d3_3 r (bitsXor .u64 (bitsXor .u64 (bitsXor .u64 (bitsXor .u64 (bitsXor .u64 0 (r 2)) (r 7)) (r 12)) (r 17)) (r 22)) (bitsXor .u64 (bitsXor .u64 (bitsXor .u64 (bitsXor .u64 (bitsXor .u64 0 (r 4)) (r 9)) (r 14)) (r 19)) (r 24)) g
theorem s1_3 (t5 : Int) (r r2 r3 r4 g : Nat → Int) : stepk10_1 (t5, 3, r, r2, r3, r4, g) = some (.inl (t5, 4, r, r2, r3, r4, d1_3 r g)) := by
  have h : stepk10_1 (t5, 3, r, r2, r3, r4, g) = (loopO stepk10_2 (t5, 3, 0, 0, 0, r, r2, r3, r4, g)).bind fun z => (loopO stepk10_3 (z.1, z.2.1, z.2.2.1, z.2.2.2.1, 0, z.2.2.2.2.1, z.2.2.2.2.2.1, z.2.2.2.2.2.2.1, z.2.2.2.2.2.2.2.1, z.2.2.2.2.2.2.2.2)).bind fun z => some (.inl (z.1, (IntKind.i64.wrap (z.2.1 + 1)), z.2.2.1, z.2.2.2.1, z.2.2.2.2.1, z.2.2.2.2.2.1, z.2.2.2.2.2.2)) := by kernel_rfl
  rw [h, l2_3]
  simp only [Option.bind_some]
  rw [l3_3]
  rfl
theorem l2_4 (t5 : Int) (r r2 r3 r4 r6 : Nat → Int) : loopO stepk10_2 (t5, 4, 0, 0, 0, r, r2, r3, r4, r6) = some (t5, 4, (bitsXor .u64 (bitsXor .u64 (bitsXor .u64 (bitsXor .u64 (bitsXor .u64 0 (r 3)) (r 8)) (r 13)) (r 18)) (r 23)), (bitsXor .u64 (bitsXor .u64 (bitsXor .u64 (bitsXor .u64 (bitsXor .u64 0 (r 0)) (r 5)) (r 10)) (r 15)) (r 20)), r, r2, r3, r4, r6) := iterO_loop (n := 6) (by kernel_rfl)
def d3_4 (r : Nat → Int) (p q : Int) (g : Nat → Int) : Nat → Int := (upd (upd (upd (upd (upd g 4 (bitsXor .u64 (bitsXor .u64 (r 4) p) (leftI q 1))) 9 (bitsXor .u64 (bitsXor .u64 (r 9) p) (leftI q 1))) 14 (bitsXor .u64 (bitsXor .u64 (r 14) p) (leftI q 1))) 19 (bitsXor .u64 (bitsXor .u64 (r 19) p) (leftI q 1))) 24 (bitsXor .u64 (bitsXor .u64 (r 24) p) (leftI q 1)))
theorem l3_4 (t5 p q : Int) (r r2 r3 r4 g : Nat → Int) : loopO stepk10_3 (t5, 4, p, q, 0, r, r2, r3, r4, g) = some (t5, 4, r, r2, r3, r4, d3_4 r p q g) := iterO_loop (n := 6) (by kernel_rfl)
def d1_4 (r : Nat → Int) (g : Nat → Int) : Nat → Int := d3_4 r (bitsXor .u64 (bitsXor .u64 (bitsXor .u64 (bitsXor .u64 (bitsXor .u64 0 (r 3)) (r 8)) (r 13)) (r 18)) (r 23)) (bitsXor .u64 (bitsXor .u64 (bitsXor .u64 (bitsXor .u64 (bitsXor .u64 0 (r 0)) (r 5)) (r 10)) (r 15)) (r 20)) g
theorem s1_4 (t5 : Int) (r r2 r3 r4 g : Nat → Int) : stepk10_1 (t5, 4, r, r2, r3, r4, g) = some (.inl (t5, 5, r, r2, r3, r4, d1_4 r g)) := by
  have h : stepk10_1 (t5, 4, r, r2, r3, r4, g) = (loopO stepk10_2 (t5, 4, 0, 0, 0, r, r2, r3, r4, g)).bind fun z => (loopO stepk10_3 (z.1, z.2.1, z.2.2.1, z.2.2.2.1, 0, z.2.2.2.2.1, z.2.2.2.2.2.1, z.2.2.2.2.2.2.1, z.2.2.2.2.2.2.2.1, z.2.2.2.2.2.2.2.2)).bind fun z => some (.inl (z.1, (IntKind.i64.wrap (z.2.1 + 1)), z.2.2.1, z.2.2.2.1, z.2.2.2.2.1, z.2.2.2.2.2.1, z.2.2.2.2.2.2)) := by kernel_rfl
  rw [h, l2_4]
  simp only [Option.bind_some]
  rw [l3_4]
  rfl
def d1 (r : Nat → Int) : Nat → Int := (d1_4 r (d1_3 r (d1_2 r (d1_1 r (d1_0 r (fun _ => 0))))))
theorem l1 (t5 : Int) (r r2 r3 r4 : Nat → Int) : loopO stepk10_1 (t5, 0, r, r2, r3, r4, (fun _ => 0)) = some (t5, r, r2, r3, r4, d1 r) := by
  rw [loop_inl (s1_0 ..)]
  rw [loop_inl (s1_1 ..)]
  rw [loop_inl (s1_2 ..)]
  rw [loop_inl (s1_3 ..)]
  rw [loop_inl (s1_4 ..)]
  exact iterO_loop (n := 1) (by kernel_rfl)
def d5_0 (b g : Nat → Int) : Nat → Int := (upd (upd (upd (upd (upd g 0 (b 0)) 16 (leftI (b 5) 36)) 7 (leftI (b 10) 3)) 23 (leftI (b 15) 41)) 14 (leftI (b 20) 18))
theorem l5_0 (t5 : Int) (r r2 r4 b g : Nat → Int) : loopO stepk10_5 (t5, 0, 0, r, r2, offF, r4, b, g) = some (t5, 0, r, r2, offF, r4, b, d5_0 b g) := iterO_loop (n := 6) (by kernel_rfl)
theorem s4_0 (t5 : Int) (r r2 r4 b g : Nat → Int) : stepk10_4 (t5, 0, r, r2, offF, r4, b, g) = some (.inl (t5, 1, r, r2, offF, r4, b, d5_0 b g)) := by
  have h : stepk10_4 (t5, 0, r, r2, offF, r4, b, g) = (loopO stepk10_5 (t5, 0, 0, r, r2, offF, r4, b, g)).bind fun z => some (.inl (z.1, (IntKind.i64.wrap (z.2.1 + 1)), z.2.2.1, z.2.2.2.1, z.2.2.2.2.1, z.2.2.2.2.2.1, z.2.2.2.2.2.2.1, z.2.2.2.2.2.2.2)) := by kernel_rfl
  rw [h, l5_0]
  rfl
def d5_1 (b g : Nat → Int) : Nat → Int := (upd (upd (upd (upd (upd g 10 (leftI (b 1) 1)) 1 (leftI (b 6) 44)) 17 (leftI (b 11) 10)) 8 (leftI (b 16) 45)) 24 (leftI (b 21) 2))
theorem l5_1 (t5 : Int) (r r2 r4 b g : Nat → Int) : loopO stepk10_5 (t5, 1, 0, r, r2, offF, r4, b, g) = some (t5, 1, r, r2, offF, r4, b, d5_1 b g) := iterO_loop (n := 6) (by kernel_rfl)
theorem s4_1 (t5 : Int) (r r2 r4 b g : Nat → Int) : stepk10_4 (t5, 1, r, r2, offF, r4, b, g) = some (.inl (t5, 2, r, r2, offF, r4, b, d5_1 b g)) := by
  have h : stepk10_4 (t5, 1, r, r2, offF, r4, b, g) = (loopO stepk10_5 (t5, 1, 0, r, r2, offF, r4, b, g)).bind fun z => some (.inl (z.1, (IntKind.i64.wrap (z.2.1 + 1)), z.2.2.1, z.2.2.2.1, z.2.2.2.2.1, z.2.2.2.2.2.1, z.2.2.2.2.2.2.1, z.2.2.2.2.2.2.2)) := by kernel_rfl
  rw [h, l5_1]
  rfl
def d5_2 (b g : Nat → Int) : Nat → Int := (upd (upd (upd (upd (upd g 20 (leftI (b 2) 62)) 11 (leftI (b 7) 6)) 2 (leftI (b 12) 43)) 18 (leftI (b 17) 15)) 9 (leftI (b 22) 61))
theorem l5_2 (t5 : Int) (r r2 r4 b g : Nat → Int) : loopO stepk10_5 (t5, 2, 0, r, r2, offF, r4, b, g) = some (t5, 2, r, r2, offF, r4, b, d5_2 b g) := iterO_loop (n := 6) (by kernel_rfl)
theorem s4_2 (t5 : Int) (r r2 r4 b g : Nat → Int) : stepk10_4 (t5, 2, r, r2, offF, r4, b, g) = some (.inl (t5, 3, r, r2, offF, r4, b, d5_2 b g)) := by
  have h : stepk10_4 (t5, 2, r, r2, offF, r4, b, g) = (loopO stepk10_5 (t5, 2, 0, r, r2, offF, r4, b, g)).bind fun z => some (.inl (z.1, (IntKind.i64.wrap (z.2.1 + 1)), z.2.2.1, z.2.2.2.1, z.2.2.2.2.1, z.2.2.2.2.2.1, z.2.2.2.2.2.2.1, z.2.2.2.2.2.2.2)) := by kernel_rfl
  rw [h, l5_2]
  rfl
def d5_3 (b g : Nat → Int) : Nat → Int := (upd (upd (upd (upd (upd g 5 (leftI (b 3) 28)) 21 (leftI (b 8) 55)) 12 (leftI (b 13) 25)) 3 (leftI (b 18) 21)) 19 (leftI (b 23) 56))
theorem l5_3 (t5 : Int) (r r2 r4 b g : Nat → Int) : loopO stepk10_5 (t5, 3, 0, r, r2, offF, r4, b, g) = some (t5, 3, r, r2, offF, r4, b, d5_3 b g) := iterO_loop (n := 6) (by kernel_rfl)
theorem s4_3 (t5 : Int) (r r2 r4 b g : Nat → Int) : stepk10_4 (t5, 3, r, r2, offF, r4, b, g) = some (.inl (t5, 4, r, r2, offF, r4, b, d5_3 b g)) := by
  have h : stepk10_4 (t5, 3, r, r2, offF, r4, b, g) = (loopO stepk10_5 (t5, 3, 0, r, r2, offF, r4, b, g)).bind fun z => some (.inl (z.1, (IntKind.i64.wrap (z.2.1 + 1)), z.2.2.1, z.2.2.2.1, z.2.2.2.2.1, z.2.2.2.2.2.1, z.2.2.2.2.2.2.1, z.2.2.2.2.2.2.2)) := by kernel_rfl
  rw [h, l5_3]
  rfl
def d5_4 (b g : Nat → Int) : Nat → Int := (upd (upd (upd (upd (upd g 15 (leftI (b 4) 27)) 6 (leftI (b 9) 20)) 22 (leftI (b 14) 39)) 13 (leftI (b 19) 8)) 4 (leftI (b 24) 14))
theorem l5_4 (t5 : Int) (r r2 r4 b g : Nat → Int) : loopO stepk10_5 (t5, 4, 0, r, r2, offF, r4, b, g) = some (t5, 4, r, r2, offF, r4, b, d5_4 b g) := iterO_loop (n := 6) (by kernel_rfl)
theorem s4_4 (t5 : Int) (r r2 r4 b g : Nat → Int) : stepk10_4 (t5, 4, r, r2, offF, r4, b, g) = some (.inl (t5, 5, r, r2, offF, r4, b, d5_4 b g)) := by
  have h : stepk10_4 (t5, 4, r, r2, offF, r4, b, g) = (loopO stepk10_5 (t5, 4, 0, r, r2, offF, r4, b, g)).bind fun z => some (.inl (z.1, (IntKind.i64.wrap (z.2.1 + 1)), z.2.2.1, z.2.2.2.1, z.2.2.2.2.1, z.2.2.2.2.2.1, z.2.2.2.2.2.2.1, z.2.2.2.2.2.2.2)) := by kernel_rfl
  rw [h, l5_4]
  rfl
def d4 (b : Nat → Int) : Nat → Int := (d5_4 b (d5_3 b (d5_2 b (d5_1 b (d5_0 b (fun _ => 0))))))
theorem l4 (t5 : Int) (r r2 r4 b : Nat → Int) : loopO stepk10_4 (t5, 0, r, r2, offF, r4, b, (fun _ => 0)) = some (t5, r, r2, offF, r4, d4 b) := by
  rw [loop_inl (s4_0 ..)]
  rw [loop_inl (s4_1 ..)]
  rw [loop_inl (s4_2 ..)]
  rw [loop_inl (s4_3 ..)]
  rw [loop_inl (s4_4 ..)]
  exact iterO_loop (n := 1) (by kernel_rfl)
def d7_0 (b r : Nat → Int) : Nat → Int := (upd (upd (upd (upd (upd r 0 (bitsXor .u64 (b 0) (bitsAnd .u64 (notI .u64 (b 1)) (b 2)))) 5 (bitsXor .u64 (b 5) (bitsAnd .u64 (notI .u64 (b 6)) (b 7)))) 10 (bitsXor .u64 (b 10) (bitsAnd .u64 (notI .u64 (b 11)) (b 12)))) 15 (bitsXor .u64 (b 15) (bitsAnd .u64 (notI .u64 (b 16)) (b 17)))) 20 (bitsXor .u64 (b 20) (bitsAnd .u64 (notI .u64 (b 21)) (b 22))))
theorem l7_0 (t5 : Int) (r r2 r3 r4 b : Nat → Int) : loopO stepk10_7 (t5, 0, 0, r, r2, r3, r4, b) = some (t5, 0, d7_0 b r, r2, r3, r4, b) := iterO_loop (n := 6) (by kernel_rfl)
theorem s6_0 (t5 : Int) (r r2 r3 r4 b : Nat → Int) : stepk10_6 (t5, 0, r, r2, r3, r4, b) = some (.inl (t5, 1, d7_0 b r, r2, r3, r4, b)) := by
  have h : stepk10_6 (t5, 0, r, r2, r3, r4, b) = (loopO stepk10_7 (t5, 0, 0, r, r2, r3, r4, b)).bind fun z => some (.inl (z.1, (IntKind.i64.wrap (z.2.1 + 1)), z.2.2.1, z.2.2.2.1, z.2.2.2.2.1, z.2.2.2.2.2.1, z.2.2.2.2.2.2)) := by kernel_rfl
  rw [h, l7_0]
  rfl
def d7_1 (b r : Nat → Int) : Nat → Int := (upd (upd (upd (upd (upd r 1 (bitsXor .u64 (b 1) (bitsAnd .u64 (notI .u64 (b 2)) (b 3)))) 6 (bitsXor .u64 (b 6) (bitsAnd .u64 (notI .u64 (b 7)) (b 8)))) 11 (bitsXor .u64 (b 11) (bitsAnd .u64 (notI .u64 (b 12)) (b 13)))) 16 (bitsXor .u64 (b 16) (bitsAnd .u64 (notI .u64 (b 17)) (b 18)))) 21 (bitsXor .u64 (b 21) (bitsAnd .u64 (notI .u64 (b 22)) (b 23))))
theorem l7_1 (t5 : Int) (r r2 r3 r4 b : Nat → Int) : loopO stepk10_7 (t5, 1, 0, r, r2, r3, r4, b) = some (t5, 1, d7_1 b r, r2, r3, r4, b) := iterO_loop (n := 6) (by kernel_rfl)
theorem s6_1 (t5 : Int) (r r2 r3 r4 b : Nat → Int) : stepk10_6 (t5, 1, r, r2, r3, r4, b) = some (.inl (t5, 2, d7_1 b r, r2, r3, r4, b)) := by
  have h : stepk10_6 (t5, 1, r, r2, r3, r4, b) = (loopO stepk10_7 (t5, 1, 0, r, r2, r3, r4, b)).bind fun z => some (.inl (z.1, (IntKind.i64.wrap (z.2.1 + 1)), z.2.2.1, z.2.2.2.1, z.2.2.2.2.1, z.2.2.2.2.2.1, z.2.2.2.2.2.2)) := by kernel_rfl
  rw [h, l7_1]
  rfl
def d7_2 (b r : Nat → Int) : Nat → Int := (upd (upd (upd (upd (upd r 2 (bitsXor .u64 (b 2) (bitsAnd .u64 (notI .u64 (b 3)) (b 4)))) 7 (bitsXor .u64 (b 7) (bitsAnd .u64 (notI .u64 (b 8)) (b 9)))) 12 (bitsXor .u64 (b 12) (bitsAnd .u64 (notI .u64 (b 13)) (b 14)))) 17 (bitsXor .u64 (b 17) (bitsAnd .u64 (notI .u64 (b 18)) (b 19)))) 22 (bitsXor .u64 (b 22) (bitsAnd .u64 (notI .u64 (b 23)) (b 24))))
theorem l7_2 (t5 : Int) (r r2 r3 r4 b : Nat → Int) : loopO stepk10_7 (t5, 2, 0, r, r2, r3, r4, b) = some (t5, 2, d7_2 b r, r2, r3, r4, b) := iterO_loop (n := 6) (by kernel_rfl)
theorem s6_2 (t5 : Int) (r r2 r3 r4 b : Nat → Int) : stepk10_6 (t5, 2, r, r2, r3, r4, b) = some (.inl (t5, 3, d7_2 b r, r2, r3, r4, b)) := by
  have h : stepk10_6 (t5, 2, r, r2, r3, r4, b) = (loopO stepk10_7 (t5, 2, 0, r, r2, r3, r4, b)).bind fun z => some (.inl (z.1, (IntKind.i64.wrap (z.2.1 + 1)), z.2.2.1, z.2.2.2.1, z.2.2.2.2.1, z.2.2.2.2.2.1, z.2.2.2.2.2.2)) := by kernel_rfl
  rw [h, l7_2]
  rfl
def d7_3 (b r : Nat → Int) : Nat → Int := (upd (upd (upd (upd (upd r 3 (bitsXor .u64 (b 3) (bitsAnd .u64 (notI .u64 (b 4)) (b 0)))) 8 (bitsXor .u64 (b 8) (bitsAnd .u64 (notI .u64 (b 9)) (b 5)))) 13 (bitsXor .u64 (b 13) (bitsAnd .u64 (notI .u64 (b 14)) (b 10)))) 18 (bitsXor .u64 (b 18) (bitsAnd .u64 (notI .u64 (b 19)) (b 15)))) 23 (bitsXor .u64 (b 23) (bitsAnd .u64 (notI .u64 (b 24)) (b 20))))
theorem l7_3 (t5 : Int) (r r2 r3 r4 b : Nat → Int) : loopO stepk10_7 (t5, 3, 0, r, r2, r3, r4, b) = some (t5, 3, d7_3 b r, r2, r3, r4, b) := iterO_loop (n := 6) (by kernel_rfl)
theorem s6_3 (t5 : Int) (r r2 r3 r4 b : Nat → Int) : stepk10_6 (t5, 3, r, r2, r3, r4, b) = some (.inl (t5, 4, d7_3 b r, r2, r3, r4, b)) := by
  have h : stepk10_6 (t5, 3, r, r2, r3, r4, b) = (loopO stepk10_7 (t5, 3, 0, r, r2, r3, r4, b)).bind fun z => some (.inl (z.1, (IntKind.i64.wrap (z.2.1 + 1)), z.2.2.1, z.2.2.2.1, z.2.2.2.2.1, z.2.2.2.2.2.1, z.2.2.2.2.2.2)) := by kernel_rfl
  rw [h, l7_3]
  rfl
def d7_4 (b r : Nat → Int) : Nat → Int := (upd (upd (upd (upd (upd r 4 (bitsXor .u64 (b 4) (bitsAnd .u64 (notI .u64 (b 0)) (b 1)))) 9 (bitsXor .u64 (b 9) (bitsAnd .u64 (notI .u64 (b 5)) (b 6)))) 14 (bitsXor .u64 (b 14) (bitsAnd .u64 (notI .u64 (b 10)) (b 11)))) 19 (bitsXor .u64 (b 19) (bitsAnd .u64 (notI .u64 (b 15)) (b 16)))) 24 (bitsXor .u64 (b 24) (bitsAnd .u64 (notI .u64 (b 20)) (b 21))))
theorem l7_4 (t5 : Int) (r r2 r3 r4 b : Nat → Int) : loopO stepk10_7 (t5, 4, 0, r, r2, r3, r4, b) = some (t5, 4, d7_4 b r, r2, r3, r4, b) := iterO_loop (n := 6) (by kernel_rfl)
theorem s6_4 (t5 : Int) (r r2 r3 r4 b : Nat → Int) : stepk10_6 (t5, 4, r, r2, r3, r4, b) = some (.inl (t5, 5, d7_4 b r, r2, r3, r4, b)) := by
  have h : stepk10_6 (t5, 4, r, r2, r3, r4, b) = (loopO stepk10_7 (t5, 4, 0, r, r2, r3, r4, b)).bind fun z => some (.inl (z.1, (IntKind.i64.wrap (z.2.1 + 1)), z.2.2.1, z.2.2.2.1, z.2.2.2.2.1, z.2.2.2.2.2.1, z.2.2.2.2.2.2)) := by kernel_rfl
  rw [h, l7_4]
  rfl
def d6 (b r : Nat → Int) : Nat → Int := (d7_4 b (d7_3 b (d7_2 b (d7_1 b (d7_0 b r)))))
theorem l6 (t5 : Int) (r r2 r3 r4 b : Nat → Int) : loopO stepk10_6 (t5, 0, r, r2, r3, r4, b) = some (t5, d6 b r, r2, r3, r4) := by
  rw [loop_inl (s6_0 ..)]
  rw [loop_inl (s6_1 ..)]
  rw [loop_inl (s6_2 ..)]
  rw [loop_inl (s6_3 ..)]
  rw [loop_inl (s6_4 ..)]
  exact iterO_loop (n := 1) (by kernel_rfl)
def rdR (c : Int) (r : Nat → Int) : Nat → Int := upd (d6 (d4 (d1 r)) r) 0 (bitsXor .u64 (d6 (d4 (d1 r)) r 0) c)
theorem con_0 : conF (Int.toNat 0) = 1 := by kernel_rfl
theorem s0_0 (r r2 : Nat → Int) : stepk10_0 (0, r, r2, offF, conF) = some (.inl (1, rdR 1 r, r2, offF, conF)) := by
  have h : stepk10_0 (0, r, r2, offF, conF) = (loopO stepk10_1 (0, 0, r, r2, offF, conF, (fun _ => 0))).bind fun z => (loopO stepk10_4 (z.1, 0, z.2.1, z.2.2.1, z.2.2.2.1, z.2.2.2.2.1, z.2.2.2.2.2, (fun _ => 0))).bind fun z => (loopO stepk10_6 (z.1, 0, z.2.1, z.2.2.1, z.2.2.2.1, z.2.2.2.2.1, z.2.2.2.2.2)).bind fun z => if (0 : Int) ≤ z.1 ∧ z.1 < ((24 : Int) : Int) then some (.inl ((IntKind.i64.wrap (z.1 + 1)), (upd z.2.1 0 (bitsXor .u64 (z.2.1 0) (z.2.2.2.2 z.1.toNat))), z.2.2.1, z.2.2.2.1, z.2.2.2.2)) else none := by kernel_rfl
  rw [h, l1]
  simp only [Option.bind_some]
  rw [l4]
  simp only [Option.bind_some]
  rw [l6]
  simp only [Option.bind_some]
  rw [if_pos (by decide), con_0]
  rfl
theorem con_1 : conF (Int.toNat 1) = 32898 := by kernel_rfl
theorem s0_1 (r r2 : Nat → Int) : stepk10_0 (1, r, r2, offF, conF) = some (.inl (2, rdR 32898 r, r2, offF, conF)) := by
  have h : stepk10_0 (1, r, r2, offF, conF) = (loopO stepk10_1 (1, 0, r, r2, offF, conF, (fun _ => 0))).bind fun z => (loopO stepk10_4 (z.1, 0, z.2.1, z.2.2.1, z.2.2.2.1, z.2.2.2.2.1, z.2.2.2.2.2, (fun _ => 0))).bind fun z => (loopO stepk10_6 (z.1, 0, z.2.1, z.2.2.1, z.2.2.2.1, z.2.2.2.2.1, z.2.2.2.2.2)).bind fun z => if (0 : Int) ≤ z.1 ∧ z.1 < ((24 : Int) : Int) then some (.inl ((IntKind.i64.wrap (z.1 + 1)), (upd z.2.1 0 (bitsXor .u64 (z.2.1 0) (z.2.2.2.2 z.1.toNat))), z.2.2.1, z.2.2.2.1, z.2.2.2.2)) else none := by kernel_rfl
  rw [h, l1]
  simp only [Option.bind_some]
  rw [l4]
  simp only [Option.bind_some]
  rw [l6]
  simp only [Option.bind_some]
  rw [if_pos (by decide), con_1]
  rfl
theorem con_2 : conF (Int.toNat 2) = 9223372036854808714 := by kernel_rfl
theorem s0_2 (r r2 : Nat → Int) : stepk10_0 (2, r, r2, offF, conF) = some (.inl (3, rdR 9223372036854808714 r, r2, offF, conF)) := by
  have h : stepk10_0 (2, r, r2, offF, conF) = (loopO stepk10_1 (2, 0, r, r2, offF, conF, (fun _ => 0))).bind fun z => (loopO stepk10_4 (z.1, 0, z.2.1, z.2.2.1, z.2.2.2.1, z.2.2.2.2.1, z.2.2.2.2.2, (fun _ => 0))).bind fun z => (loopO stepk10_6 (z.1, 0, z.2.1, z.2.2.1, z.2.2.2.1, z.2.2.2.2.1, z.2.2.2.2.2)).bind fun z => if (0 : Int) ≤ z.1 ∧ z.1 < ((24 : Int) : Int) then some (.inl ((IntKind.i64.wrap (z.1 + 1)), (upd z.2.1 0 (bitsXor .u64 (z.2.1 0) (z.2.2.2.2 z.1.toNat))), z.2.2.1, z.2.2.2.1, z.2.2.2.2)) else none := by kernel_rfl
  rw [h, l1]
  simp only [Option.bind_some]
  rw [l4]
  simp only [Option.bind_some]
  rw [l6]
  simp only [Option.bind_some]
  rw [if_pos (by decide), con_2]
  rfl
theorem con_3 : conF (Int.toNat 3) = 9223372039002292224 := by kernel_rfl
theorem s0_3 (r r2 : Nat → Int) : stepk10_0 (3, r, r2, offF, conF) = some (.inl (4, rdR 9223372039002292224 r, r2, offF, conF)) := by
  have h : stepk10_0 (3, r, r2, offF, conF) = (loopO stepk10_1 (3, 0, r, r2, offF, conF, (fun _ => 0))).bind fun z => (loopO stepk10_4 (z.1, 0, z.2.1, z.2.2.1, z.2.2.2.1, z.2.2.2.2.1, z.2.2.2.2.2, (fun _ => 0))).bind fun z => (loopO stepk10_6 (z.1, 0, z.2.1, z.2.2.1, z.2.2.2.1, z.2.2.2.2.1, z.2.2.2.2.2)).bind fun z => if (0 : Int) ≤ z.1 ∧ z.1 < ((24 : Int) : Int) then some (.inl ((IntKind.i64.wrap (z.1 + 1)), (upd z.2.1 0 (bitsXor .u64 (z.2.1 0) (z.2.2.2.2 z.1.toNat))), z.2.2.1, z.2.2.2.1, z.2.2.2.2)) else none := by kernel_rfl
  rw [h, l1]
  simp only [Option.bind_some]
  rw [l4]
  simp only [Option.bind_some]
  rw [l6]
  simp only [Option.bind_some]
  rw [if_pos (by decide), con_3]
  rfl
theorem con_4 : conF (Int.toNat 4) = 32907 := by kernel_rfl
theorem s0_4 (r r2 : Nat → Int) : stepk10_0 (4, r, r2, offF, conF) = some (.inl (5, rdR 32907 r, r2, offF, conF)) := by
  have h : stepk10_0 (4, r, r2, offF, conF) = (loopO stepk10_1 (4, 0, r, r2, offF, conF, (fun _ => 0))).bind fun z => (loopO stepk10_4 (z.1, 0, z.2.1, z.2.2.1, z.2.2.2.1, z.2.2.2.2.1, z.2.2.2.2.2, (fun _ => 0))).bind fun z => (loopO stepk10_6 (z.1, 0, z.2.1, z.2.2.1, z.2.2.2.1, z.2.2.2.2.1, z.2.2.2.2.2)).bind fun z => if (0 : Int) ≤ z.1 ∧ z.1 < ((24 : Int) : Int) then some (.inl ((IntKind.i64.wrap (z.1 + 1)), (upd z.2.1 0 (bitsXor .u64 (z.2.1 0) (z.2.2.2.2 z.1.toNat))), z.2.2.1, z.2.2.2.1, z.2.2.2.2)) else none := by kernel_rfl
  rw [h, l1]
  simp only [Option.bind_some]
  rw [l4]
  simp only [Option.bind_some]
  rw [l6]
  simp only [Option.bind_some]
  rw [if_pos (by decide), con_4]
  rfl
theorem con_5 : conF (Int.toNat 5) = 2147483649 := by kernel_rfl
theorem s0_5 (r r2 : Nat → Int) : stepk10_0 (5, r, r2, offF, conF) = some (.inl (6, rdR 2147483649 r, r2, offF, conF)) := by
  have h : stepk10_0 (5, r, r2, offF, conF) = (loopO stepk10_1 (5, 0, r, r2, offF, conF, (fun _ => 0))).bind fun z => (loopO stepk10_4 (z.1, 0, z.2.1, z.2.2.1, z.2.2.2.1, z.2.2.2.2.1, z.2.2.2.2.2, (fun _ => 0))).bind fun z => (loopO stepk10_6 (z.1, 0, z.2.1, z.2.2.1, z.2.2.2.1, z.2.2.2.2.1, z.2.2.2.2.2)).bind fun z => if (0 : Int) ≤ z.1 ∧ z.1 < ((24 : Int) : Int) then some (.inl ((IntKind.i64.wrap (z.1 + 1)), (upd z.2.1 0 (bitsXor .u64 (z.2.1 0) (z.2.2.2.2 z.1.toNat))), z.2.2.1, z.2.2.2.1, z.2.2.2.2)) else none := by kernel_rfl
  rw [h, l1]
  simp only [Option.bind_some]
  rw [l4]
  simp only [Option.bind_some]
  rw [l6]
  simp only [Option.bind_some]
  rw [if_pos (by decide), con_5]
  rfl
theorem con_6 : conF (Int.toNat 6) = 9223372039002292353 := by kernel_rfl
theorem s0_6 (r r2 : Nat → Int) : stepk10_0 (6, r, r2, offF, conF) = some (.inl (7, rdR 9223372039002292353 r, r2, offF, conF)) := by
  have h : stepk10_0 (6, r, r2, offF, conF) = (loopO stepk10_1 (6, 0, r, r2, offF, conF, (fun _ => 0))).bind fun z => (loopO stepk10_4 (z.1, 0, z.2.1, z.2.2.1, z.2.2.2.1, z.2.2.2.2.1, z.2.2.2.2.2, (fun _ => 0))).bind fun z => (loopO stepk10_6 (z.1, 0, z.2.1, z.2.2.1, z.2.2.2.1, z.2.2.2.2.1, z.2.2.2.2.2)).bind fun z => if (0 : Int) ≤ z.1 ∧ z.1 < ((24 : Int) : Int) then some (.inl ((IntKind.i64.wrap (z.1 + 1)), (upd z.2.1 0 (bitsXor .u64 (z.2.1 0) (z.2.2.2.2 z.1.toNat))), z.2.2.1, z.2.2.2.1, z.2.2.2.2)) else none := by kernel_rfl
  rw [h, l1]
  simp only [Option.bind_some]
  rw [l4]
  simp only [Option.bind_some]
  rw [l6]
  simp only [Option.bind_some]
  rw [if_pos (by decide), con_6]
  rfl
theorem con_7 : conF (Int.toNat 7) = 9223372036854808585 := by kernel_rfl
theorem s0_7 (r r2 : Nat → Int) : stepk10_0 (7, r, r2, offF, conF) = some (.inl (8, rdR 9223372036854808585 r, r2, offF, conF)) := by
  have h : stepk10_0 (7, r, r2, offF, conF) = (loopO stepk10_1 (7, 0, r, r2, offF, conF, (fun _ => 0))).bind fun z => (loopO stepk10_4 (z.1, 0, z.2.1, z.2.2.1, z.2.2.2.1, z.2.2.2.2.1, z.2.2.2.2.2, (fun _ => 0))).bind fun z => (loopO stepk10_6 (z.1, 0, z.2.1, z.2.2.1, z.2.2.2.1, z.2.2.2.2.1, z.2.2.2.2.2)).bind fun z => if (0 : Int) ≤ z.1 ∧ z.1 < ((24 : Int) : Int) then some (.inl ((IntKind.i64.wrap (z.1 + 1)), (upd z.2.1 0 (bitsXor .u64 (z.2.1 0) (z.2.2.2.2 z.1.toNat))), z.2.2.1, z.2.2.2.1, z.2.2.2.2)) else none := by kernel_rfl
  rw [h, l1]
  simp only [Option.bind_some]
  rw [l4]
  simp only [Option.bind_some]
  rw [l6]
  simp only [Option.bind_some]
  rw [if_pos (by decide), con_7]
  rfl
theorem con_8 : conF (Int.toNat 8) = 138 := by kernel_rfl
theorem s0_8 (r r2 : Nat → Int) : stepk10_0 (8, r, r2, offF, conF) = some (.inl (9, rdR 138 r, r2, offF, conF)) := by
  have h : stepk10_0 (8, r, r2, offF, conF) = (loopO stepk10_1 (8, 0, r, r2, offF, conF, (fun _ => 0))).bind fun z => (loopO stepk10_4 (z.1, 0, z.2.1, z.2.2.1, z.2.2.2.1, z.2.2.2.2.1, z.2.2.2.2.2, (fun _ => 0))).bind fun z => (loopO stepk10_6 (z.1, 0, z.2.1, z.2.2.1, z.2.2.2.1, z.2.2.2.2.1, z.2.2.2.2.2)).bind fun z => if (0 : Int) ≤ z.1 ∧ z.1 < ((24 : Int) : Int) then some (.inl ((IntKind.i64.wrap (z.1 + 1)), (upd z.2.1 0 (bitsXor .u64 (z.2.1 0) (z.2.2.2.2 z.1.toNat))), z.2.2.1, z.2.2.2.1, z.2.2.2.2)) else none := by kernel_rfl
  rw [h, l1]
  simp only [Option.bind_some]
  rw [l4]
  simp only [Option.bind_some]
  rw [l6]
  simp only [Option.bind_some]
  rw [if_pos (by decide), con_8]
  rfl
theorem con_9 : conF (Int.toNat 9) = 136 := by kernel_rfl
theorem s0_9 (r r2 : Nat → Int) : stepk10_0 (9, r, r2, offF, conF) = some (.inl (10, rdR 136 r, r2, offF, conF)) := by
  have h : stepk10_0 (9, r, r2, offF, conF) = (loopO stepk10_1 (9, 0, r, r2, offF, conF, (fun _ => 0))).bind fun z => (loopO stepk10_4 (z.1, 0, z.2.1, z.2.2.1, z.2.2.2.1, z.2.2.2.2.1, z.2.2.2.2.2, (fun _ => 0))).bind fun z => (loopO stepk10_6 (z.1, 0, z.2.1, z.2.2.1, z.2.2.2.1, z.2.2.2.2.1, z.2.2.2.2.2)).bind fun z => if (0 : Int) ≤ z.1 ∧ z.1 < ((24 : Int) : Int) then some (.inl ((IntKind.i64.wrap (z.1 + 1)), (upd z.2.1 0 (bitsXor .u64 (z.2.1 0) (z.2.2.2.2 z.1.toNat))), z.2.2.1, z.2.2.2.1, z.2.2.2.2)) else none := by kernel_rfl
  rw [h, l1]
  simp only [Option.bind_some]
  rw [l4]
  simp only [Option.bind_some]
  rw [l6]
  simp only [Option.bind_some]
  rw [if_pos (by decide), con_9]
  rfl
theorem con_10 : conF (Int.toNat 10) = 2147516425 := by kernel_rfl
theorem s0_10 (r r2 : Nat → Int) : stepk10_0 (10, r, r2, offF, conF) = some (.inl (11, rdR 2147516425 r, r2, offF, conF)) := by
  have h : stepk10_0 (10, r, r2, offF, conF) = (loopO stepk10_1 (10, 0, r, r2, offF, conF, (fun _ => 0))).bind fun z => (loopO stepk10_4 (z.1, 0, z.2.1, z.2.2.1, z.2.2.2.1, z.2.2.2.2.1, z.2.2.2.2.2, (fun _ => 0))).bind fun z => (loopO stepk10_6 (z.1, 0, z.2.1, z.2.2.1, z.2.2.2.1, z.2.2.2.2.1, z.2.2.2.2.2)).bind fun z => if (0 : Int) ≤ z.1 ∧ z.1 < ((24 : Int) : Int) then some (.inl ((IntKind.i64.wrap (z.1 + 1)), (upd z.2.1 0 (bitsXor .u64 (z.2.1 0) (z.2.2.2.2 z.1.toNat))), z.2.2.1, z.2.2.2.1, z.2.2.2.2)) else none := by kernel_rfl
  rw [h, l1]
  simp only [Option.bind_some]
  rw [l4]
  simp only [Option.bind_some]
  rw [l6]
  simp only [Option.bind_some]
  rw [if_pos (by decide), con_10]
  rfl
theorem con_11 : conF (Int.toNat 11) = 2147483658 := by kernel_rfl
theorem s0_11 (r r2 : Nat → Int) : stepk10_0 (11, r, r2, offF, conF) = some (.inl (12, rdR 2147483658 r, r2, offF, conF)) := by
  have h : stepk10_0 (11, r, r2, offF, conF) = (loopO stepk10_1 (11, 0, r, r2, offF, conF, (fun _ => 0))).bind fun z => (loopO stepk10_4 (z.1, 0, z.2.1, z.2.2.1, z.2.2.2.1, z.2.2.2.2.1, z.2.2.2.2.2, (fun _ => 0))).bind fun z => (loopO stepk10_6 (z.1, 0, z.2.1, z.2.2.1, z.2.2.2.1, z.2.2.2.2.1, z.2.2.2.2.2)).bind fun z => if (0 : Int) ≤ z.1 ∧ z.1 < ((24 : Int) : Int) then some (.inl ((IntKind.i64.wrap (z.1 + 1)), (upd z.2.1 0 (bitsXor .u64 (z.2.1 0) (z.2.2.2.2 z.1.toNat))), z.2.2.1, z.2.2.2.1, z.2.2.2.2)) else none := by kernel_rfl
  rw [h, l1]
  simp only [Option.bind_some]
  rw [l4]
  simp only [Option.bind_some]
  rw [l6]
  simp only [Option.bind_some]
  rw [if_pos (by decide), con_11]
  rfl
theorem con_12 : conF (Int.toNat 12) = 2147516555 := by kernel_rfl
theorem s0_12 (r r2 : Nat → Int) : stepk10_0 (12, r, r2, offF, conF) = some (.inl (13, rdR 2147516555 r, r2, offF, conF)) := by
  have h : stepk10_0 (12, r, r2, offF, conF) = (loopO stepk10_1 (12, 0, r, r2, offF, conF, (fun _ => 0))).bind fun z => (loopO stepk10_4 (z.1, 0, z.2.1, z.2.2.1, z.2.2.2.1, z.2.2.2.2.1, z.2.2.2.2.2, (fun _ => 0))).bind fun z => (loopO stepk10_6 (z.1, 0, z.2.1, z.2.2.1, z.2.2.2.1, z.2.2.2.2.1, z.2.2.2.2.2)).bind fun z => if (0 : Int) ≤ z.1 ∧ z.1 < ((24 : Int) : Int) then some (.inl ((IntKind.i64.wrap (z.1 + 1)), (upd z.2.1 0 (bitsXor .u64 (z.2.1 0) (z.2.2.2.2 z.1.toNat))), z.2.2.1, z.2.2.2.1, z.2.2.2.2)) else none := by kernel_rfl
  rw [h, l1]
  simp only [Option.bind_some]
  rw [l4]
  simp only [Option.bind_some]
  rw [l6]
  simp only [Option.bind_some]
  rw [if_pos (by decide), con_12]
  rfl
theorem con_13 : conF (Int.toNat 13) = 9223372036854775947 := by kernel_rfl
theorem s0_13 (r r2 : Nat → Int) : stepk10_0 (13, r, r2, offF, conF) = some (.inl (14, rdR 9223372036854775947 r, r2, offF, conF)) := by
  have h : stepk10_0 (13, r, r2, offF, conF) = (loopO stepk10_1 (13, 0, r, r2, offF, conF, (fun _ => 0))).bind fun z => (loopO stepk10_4 (z.1, 0, z.2.1, z.2.2.1, z.2.2.2.1, z.2.2.2.2.1, z.2.2.2.2.2, (fun _ => 0))).bind fun z => (loopO stepk10_6 (z.1, 0, z.2.1, z.2.2.1, z.2.2.2.1, z.2.2.2.2.1, z.2.2.2.2.2)).bind fun z => if (0 : Int) ≤ z.1 ∧ z.1 < ((24 : Int) : Int) then some (.inl ((IntKind.i64.wrap (z.1 + 1)), (upd z.2.1 0 (bitsXor .u64 (z.2.1 0) (z.2.2.2.2 z.1.toNat))), z.2.2.1, z.2.2.2.1, z.2.2.2.2)) else none := by kernel_rfl
  rw [h, l1]
  simp only [Option.bind_some]
  rw [l4]
  simp only [Option.bind_some]
  rw [l6]
  simp only [Option.bind_some]
  rw [if_pos (by decide), con_13]
  rfl
theorem con_14 : conF (Int.toNat 14) = 9223372036854808713 := by kernel_rfl
theorem s0_14 (r r2 : Nat → Int) : stepk10_0 (14, r, r2, offF, conF) = some (.inl (15, rdR 9223372036854808713 r, r2, offF, conF)) := by
  have h : stepk10_0 (14, r, r2, offF, conF) = (loopO stepk10_1 (14, 0, r, r2, offF, conF, (fun _ => 0))).bind fun z => (loopO stepk10_4 (z.1, 0, z.2.1, z.2.2.1, z.2.2.2.1, z.2.2.2.2.1, z.2.2.2.2.2, (fun _ => 0))).bind fun z => (loopO stepk10_6 (z.1, 0, z.2.1, z.2.2.1, z.2.2.2.1, z.2.2.2.2.1, z.2.2.2.2.2)).bind fun z => if (0 : Int) ≤ z.1 ∧ z.1 < ((24 : Int) : Int) then some (.inl ((IntKind.i64.wrap (z.1 + 1)), (upd z.2.1 0 (bitsXor .u64 (z.2.1 0) (z.2.2.2.2 z.1.toNat))), z.2.2.1, z.2.2.2.1, z.2.2.2.2)) else none := by kernel_rfl
  rw [h, l1]
  simp only [Option.bind_some]
  rw [l4]
  simp only [Option.bind_some]
  rw [l6]
  simp only [Option.bind_some]
  rw [if_pos (by decide), con_14]
  rfl
theorem con_15 : conF (Int.toNat 15) = 9223372036854808579 := by kernel_rfl
theorem s0_15 (r r2 : Nat → Int) : stepk10_0 (15, r, r2, offF, conF) = some (.inl (16, rdR 9223372036854808579 r, r2, offF, conF)) := by
  have h : stepk10_0 (15, r, r2, offF, conF) = (loopO stepk10_1 (15, 0, r, r2, offF, conF, (fun _ => 0))).bind fun z => (loopO stepk10_4 (z.1, 0, z.2.1, z.2.2.1, z.2.2.2.1, z.2.2.2.2.1, z.2.2.2.2.2, (fun _ => 0))).bind fun z => (loopO stepk10_6 (z.1, 0, z.2.1, z.2.2.1, z.2.2.2.1, z.2.2.2.2.1, z.2.2.2.2.2)).bind fun z => if (0 : Int) ≤ z.1 ∧ z.1 < ((24 : Int) : Int) then some (.inl ((IntKind.i64.wrap (z.1 + 1)), (upd z.2.1 0 (bitsXor .u64 (z.2.1 0) (z.2.2.2.2 z.1.toNat))), z.2.2.1, z.2.2.2.1, z.2.2.2.2)) else none := by kernel_rfl
  rw [h, l1]
  simp only [Option.bind_some]
  rw [l4]
  simp only [Option.bind_some]
  rw [l6]
  simp only [Option.bind_some]
  rw [if_pos (by decide), con_15]
  rfl
theorem con_16 : conF (Int.toNat 16) = 9223372036854808578 := by kernel_rfl
theorem s0_16 (r r2 : Nat → Int) : stepk10_0 (16, r, r2, offF, conF) = some (.inl (17, rdR 9223372036854808578 r, r2, offF, conF)) := by
  have h : stepk10_0 (16, r, r2, offF, conF) = (loopO stepk10_1 (16, 0, r, r2, offF, conF, (fun _ => 0))).bind fun z => (loopO stepk10_4 (z.1, 0, z.2.1, z.2.2.1, z.2.2.2.1, z.2.2.2.2.1, z.2.2.2.2.2, (fun _ => 0))).bind fun z => (loopO stepk10_6 (z.1, 0, z.2.1, z.2.2.1, z.2.2.2.1, z.2.2.2.2.1, z.2.2.2.2.2)).bind fun z => if (0 : Int) ≤ z.1 ∧ z.1 < ((24 : Int) : Int) then some (.inl ((IntKind.i64.wrap (z.1 + 1)), (upd z.2.1 0 (bitsXor .u64 (z.2.1 0) (z.2.2.2.2 z.1.toNat))), z.2.2.1, z.2.2.2.1, z.2.2.2.2)) else none := by kernel_rfl
  rw [h, l1]
  simp only [Option.bind_some]
  rw [l4]
  simp only [Option.bind_some]
  rw [l6]
  simp only [Option.bind_some]
  rw [if_pos (by decide), con_16]
  rfl
theorem con_17 : conF (Int.toNat 17) = 9223372036854775936 := by kernel_rfl
theorem s0_17 (r r2 : Nat → Int) : stepk10_0 (17, r, r2, offF, conF) = some (.inl (18, rdR 9223372036854775936 r, r2, offF, conF)) := by
  have h : stepk10_0 (17, r, r2, offF, conF) = (loopO stepk10_1 (17, 0, r, r2, offF, conF, (fun _ => 0))).bind fun z => (loopO stepk10_4 (z.1, 0, z.2.1, z.2.2.1, z.2.2.2.1, z.2.2.2.2.1, z.2.2.2.2.2, (fun _ => 0))).bind fun z => (loopO stepk10_6 (z.1, 0, z.2.1, z.2.2.1, z.2.2.2.1, z.2.2.2.2.1, z.2.2.2.2.2)).bind fun z => if (0 : Int) ≤ z.1 ∧ z.1 < ((24 : Int) : Int) then some (.inl ((IntKind.i64.wrap (z.1 + 1)), (upd z.2.1 0 (bitsXor .u64 (z.2.1 0) (z.2.2.2.2 z.1.toNat))), z.2.2.1, z.2.2.2.1, z.2.2.2.2)) else none := by kernel_rfl
  rw [h, l1]
  simp only [Option.bind_some]
  rw [l4]
  simp only [Option.bind_some]
  rw [l6]
  simp only [Option.bind_some]
  rw [if_pos (by decide), con_17]
  rfl
theorem con_18 : conF (Int.toNat 18) = 32778 := by kernel_rfl
theorem s0_18 (r r2 : Nat → Int) : stepk10_0 (18, r, r2, offF, conF) = some (.inl (19, rdR 32778 r, r2, offF, conF)) := by
  have h : stepk10_0 (18, r, r2, offF, conF) = (loopO stepk10_1 (18, 0, r, r2, offF, conF, (fun _ => 0))).bind fun z => (loopO stepk10_4 (z.1, 0, z.2.1, z.2.2.1, z.2.2.2.1, z.2.2.2.2.1, z.2.2.2.2.2, (fun _ => 0))).bind fun z => (loopO stepk10_6 (z.1, 0, z.2.1, z.2.2.1, z.2.2.2.1, z.2.2.2.2.1, z.2.2.2.2.2)).bind fun z => if (0 : Int) ≤ z.1 ∧ z.1 < ((24 : Int) : Int) then some (.inl ((IntKind.i64.wrap (z.1 + 1)), (upd z.2.1 0 (bitsXor .u64 (z.2.1 0) (z.2.2.2.2 z.1.toNat))), z.2.2.1, z.2.2.2.1, z.2.2.2.2)) else none := by kernel_rfl
  rw [h, l1]
  simp only [Option.bind_some]
  rw [l4]
  simp only [Option.bind_some]
  rw [l6]
  simp only [Option.bind_some]
  rw [if_pos (by decide), con_18]
  rfl
theorem con_19 : conF (Int.toNat 19) = 9223372039002259466 := by kernel_rfl
theorem s0_19 (r r2 : Nat → Int) : stepk10_0 (19, r, r2, offF, conF) = some (.inl (20, rdR 9223372039002259466 r, r2, offF, conF)) := by
  have h : stepk10_0 (19, r, r2, offF, conF) = (loopO stepk10_1 (19, 0, r, r2, offF, conF, (fun _ => 0))).bind fun z => (loopO stepk10_4 (z.1, 0, z.2.1, z.2.2.1, z.2.2.2.1, z.2.2.2.2.1, z.2.2.2.2.2, (fun _ => 0))).bind fun z => (loopO stepk10_6 (z.1, 0, z.2.1, z.2.2.1, z.2.2.2.1, z.2.2.2.2.1, z.2.2.2.2.2)).bind fun z => if (0 : Int) ≤ z.1 ∧ z.1 < ((24 : Int) : Int) then some (.inl ((IntKind.i64.wrap (z.1 + 1)), (upd z.2.1 0 (bitsXor .u64 (z.2.1 0) (z.2.2.2.2 z.1.toNat))), z.2.2.1, z.2.2.2.1, z.2.2.2.2)) else none := by kernel_rfl
  rw [h, l1]
  simp only [Option.bind_some]
  rw [l4]
  simp only [Option.bind_some]
  rw [l6]
  simp only [Option.bind_some]
  rw [if_pos (by decide), con_19]
  rfl
theorem con_20 : conF (Int.toNat 20) = 9223372039002292353 := by kernel_rfl
theorem s0_20 (r r2 : Nat → Int) : stepk10_0 (20, r, r2, offF, conF) = some (.inl (21, rdR 9223372039002292353 r, r2, offF, conF)) := by
  have h : stepk10_0 (20, r, r2, offF, conF) = (loopO stepk10_1 (20, 0, r, r2, offF, conF, (fun _ => 0))).bind fun z => (loopO stepk10_4 (z.1, 0, z.2.1, z.2.2.1, z.2.2.2.1, z.2.2.2.2.1, z.2.2.2.2.2, (fun _ => 0))).bind fun z => (loopO stepk10_6 (z.1, 0, z.2.1, z.2.2.1, z.2.2.2.1, z.2.2.2.2.1, z.2.2.2.2.2)).bind fun z => if (0 : Int) ≤ z.1 ∧ z.1 < ((24 : Int) : Int) then some (.inl ((IntKind.i64.wrap (z.1 + 1)), (upd z.2.1 0 (bitsXor .u64 (z.2.1 0) (z.2.2.2.2 z.1.toNat))), z.2.2.1, z.2.2.2.1, z.2.2.2.2)) else none := by kernel_rfl
  rw [h, l1]
  simp only [Option.bind_some]
  rw [l4]
  simp only [Option.bind_some]
  rw [l6]
  simp only [Option.bind_some]
  rw [if_pos (by decide), con_20]
  rfl
theorem con_21 : conF (Int.toNat 21) = 9223372036854808704 := by kernel_rfl
theorem s0_21 (r r2 : Nat → Int) : stepk10_0 (21, r, r2, offF, conF) = some (.inl (22, rdR 9223372036854808704 r, r2, offF, conF)) := by
  have h : stepk10_0 (21, r, r2, offF, conF) = (loopO stepk10_1 (21, 0, r, r2, offF, conF, (fun _ => 0))).bind fun z => (loopO stepk10_4 (z.1, 0, z.2.1, z.2.2.1, z.2.2.2.1, z.2.2.2.2.1, z.2.2.2.2.2, (fun _ => 0))).bind fun z => (loopO stepk10_6 (z.1, 0, z.2.1, z.2.2.1, z.2.2.2.1, z.2.2.2.2.1, z.2.2.2.2.2)).bind fun z => if (0 : Int) ≤ z.1 ∧ z.1 < ((24 : Int) : Int) then some (.inl ((IntKind.i64.wrap (z.1 + 1)), (upd z.2.1 0 (bitsXor .u64 (z.2.1 0) (z.2.2.2.2 z.1.toNat))), z.2.2.1, z.2.2.2.1, z.2.2.2.2)) else none := by kernel_rfl
  rw [h, l1]
  simp only [Option.bind_some]
  rw [l4]
  simp only [Option.bind_some]
  rw [l6]
  simp only [Option.bind_some]
  rw [if_pos (by decide), con_21]
  rfl
theorem con_22 : conF (Int.toNat 22) = 2147483649 := by kernel_rfl
theorem s0_22 (r r2 : Nat → Int) : stepk10_0 (22, r, r2, offF, conF) = some (.inl (23, rdR 2147483649 r, r2, offF, conF)) := by
  have h : stepk10_0 (22, r, r2, offF, conF) = (loopO stepk10_1 (22, 0, r, r2, offF, conF, (fun _ => 0))).bind fun z => (loopO stepk10_4 (z.1, 0, z.2.1, z.2.2.1, z.2.2.2.1, z.2.2.2.2.1, z.2.2.2.2.2, (fun _ => 0))).bind fun z => (loopO stepk10_6 (z.1, 0, z.2.1, z.2.2.1, z.2.2.2.1, z.2.2.2.2.1, z.2.2.2.2.2)).bind fun z => if (0 : Int) ≤ z.1 ∧ z.1 < ((24 : Int) : Int) then some (.inl ((IntKind.i64.wrap (z.1 + 1)), (upd z.2.1 0 (bitsXor .u64 (z.2.1 0) (z.2.2.2.2 z.1.toNat))), z.2.2.1, z.2.2.2.1, z.2.2.2.2)) else none := by kernel_rfl
  rw [h, l1]
  simp only [Option.bind_some]
  rw [l4]
  simp only [Option.bind_some]
  rw [l6]
  simp only [Option.bind_some]
  rw [if_pos (by decide), con_22]
  rfl
theorem con_23 : conF (Int.toNat 23) = 9223372039002292232 := by kernel_rfl
theorem s0_23 (r r2 : Nat → Int) : stepk10_0 (23, r, r2, offF, conF) = some (.inl (24, rdR 9223372039002292232 r, r2, offF, conF)) := by
  have h : stepk10_0 (23, r, r2, offF, conF) = (loopO stepk10_1 (23, 0, r, r2, offF, conF, (fun _ => 0))).bind fun z => (loopO stepk10_4 (z.1, 0, z.2.1, z.2.2.1, z.2.2.2.1, z.2.2.2.2.1, z.2.2.2.2.2, (fun _ => 0))).bind fun z => (loopO stepk10_6 (z.1, 0, z.2.1, z.2.2.1, z.2.2.2.1, z.2.2.2.2.1, z.2.2.2.2.2)).bind fun z => if (0 : Int) ≤ z.1 ∧ z.1 < ((24 : Int) : Int) then some (.inl ((IntKind.i64.wrap (z.1 + 1)), (upd z.2.1 0 (bitsXor .u64 (z.2.1 0) (z.2.2.2.2 z.1.toNat))), z.2.2.1, z.2.2.2.1, z.2.2.2.2)) else none := by kernel_rfl
  rw [h, l1]
  simp only [Option.bind_some]
  rw [l4]
  simp only [Option.bind_some]
  rw [l6]
  simp only [Option.bind_some]
  rw [if_pos (by decide), con_23]
  rfl
def perm10 (a : Nat → Int) : Nat → Int := (rdR 9223372039002292232 (rdR 2147483649 (rdR 9223372036854808704 (rdR 9223372039002292353 (rdR 9223372039002259466 (rdR 32778 (rdR 9223372036854775936 (rdR 9223372036854808578 (rdR 9223372036854808579 (rdR 9223372036854808713 (rdR 9223372036854775947 (rdR 2147516555 (rdR 2147483658 (rdR 2147516425 (rdR 136 (rdR 138 (rdR 9223372036854808585 (rdR 9223372039002292353 (rdR 2147483649 (rdR 32907 (rdR 9223372039002292224 (rdR 9223372036854808714 (rdR 32898 (rdR 1 a))))))))))))))))))))))))
theorem Fk10_eq (a : Nat → Int) : Fk10 a = some (perm10 a) := by
  have h : Fk10 a = (Fk27 ()).bind fun y1 => (Fk28 ()).bind fun y2 => (loopO stepk10_0 (0, a, (fun _ => 0), y1, y2)).bind fun z => some z.1 := by kernel_rfl
  rw [h, Fk27_eq]
  simp only [Option.bind_some]
  rw [Fk28_eq]
  simp only [Option.bind_some]
  rw [loop_inl (s0_0 _ _)]
  rw [loop_inl (s0_1 _ _)]
  rw [loop_inl (s0_2 _ _)]
  rw [loop_inl (s0_3 _ _)]
  rw [loop_inl (s0_4 _ _)]
  rw [loop_inl (s0_5 _ _)]
  rw [loop_inl (s0_6 _ _)]
  rw [loop_inl (s0_7 _ _)]
  rw [loop_inl (s0_8 _ _)]
  rw [loop_inl (s0_9 _ _)]
  rw [loop_inl (s0_10 _ _)]
  rw [loop_inl (s0_11 _ _)]
  rw [loop_inl (s0_12 _ _)]
  rw [loop_inl (s0_13 _ _)]
  rw [loop_inl (s0_14 _ _)]
  rw [loop_inl (s0_15 _ _)]
  rw [loop_inl (s0_16 _ _)]
  rw [loop_inl (s0_17 _ _)]
  rw [loop_inl (s0_18 _ _)]
  rw [loop_inl (s0_19 _ _)]
  rw [loop_inl (s0_20 _ _)]
  rw [loop_inl (s0_21 _ _)]
  rw [loop_inl (s0_22 _ _)]
  rw [loop_inl (s0_23 _ _)]
  rw [iterO_loop (n := 1) (t := (perm10 a, (fun _ => 0))) (by kernel_rfl)]
  rfl
end
end Go.Abs.KRef
