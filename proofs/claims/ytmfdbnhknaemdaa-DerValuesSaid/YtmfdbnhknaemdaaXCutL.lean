/- An item that is cut short, or has bytes behind it, is refused. -/
import Derived.Test.YtmfdbnhknaemdaaXSameL
set_option linter.unusedVariables false
set_option linter.unusedSimpArgs false
namespace Go.Abs

theorem cut_short {t : Tree} (h : (encO t).2 = 0) {k : Nat} (hk : k < t.enc.length) (hb : By t.enc) : (decB (t.enc.take k)).2 ≠ 0 := by
  intro h0
  obtain ⟨_, h2, h3, h4⟩ := decB_encO h
  obtain ⟨e1, e2⟩ := encO_decB (hb.take k) h0
  have h5 : (encO (decB (t.enc.take k)).1).2 = 0 := by rw [e1]
  obtain ⟨_, f2, f3, f4⟩ := decB_encO h5
  rw [e1] at f2
  have r1 := rdI_enc 16 _ f4 (by omega) (t.enc.drop k)
  have f2 : t.enc.take k = (decB (t.enc.take k)).1.enc := f2
  rw [← f2, List.take_append_drop] at r1
  have r2 := rdI_enc 16 t h4 (by omega) []
  rw [List.append_nil, r1] at r2
  have e3 : t.enc.drop k = [] := by
    injection r2 with r2
    injection r2
  have := congrArg List.length e3
  simp at this
  omega

theorem more_behind {t : Tree} (h : (encO t).2 = 0) (m : List Int) : (decB (t.enc ++ m)).2 = if 65536 < t.enc.length + m.length then 121 else if m = [] then 0 else 126 := by
  obtain ⟨_, h2, h3, h4⟩ := decB_encO h
  unfold decB
  rw [List.length_append]
  by_cases hl : 65536 < t.enc.length + m.length
  · rw [if_pos hl, if_pos hl]
  · rw [if_neg hl, if_neg hl, rdI_enc 16 t h4 (by omega) m]
    by_cases hm : m = []
    · simp [hm]
    · simp [hm]

theorem cutShort {t : Tree} {q : Int} {m : List Int} (ht : TreeOk t) (hq : -9223372036854775808 ≤ q ∧ q < 9223372036854775808) (hm : By m) (hl : m.length ≤ 140737488351232) : Fd7 (t, q, m) = some true := by
  simp only [Fd7]
  rw [Tree.eta, great_eq ht]
  simp only [Option.bind_some]
  by_cases hg : 65536 < t.sz
  · rw [if_pos (decide_eq_true hg), alive]; rfl
  · rw [if_neg (by simpa using hg), encode_eq ht]
    simp only [Option.bind_some]
    by_cases h : (encO t).2 = 0
    · have d1 : ((encO t).2 != 0) = false := by simpa using h
      rw [if_neg (by rw [d1]; decide)]
      obtain ⟨_, h2, h3, h4⟩ := decB_encO h
      have hb := encO_by ht h
      rw [h2] at hb
      simp only [h2]
      have hpos : 0 < t.enc.length := by
        cases hc : t.enc with
        | nil => exact absurd hc (enc_pos t)
        | cons => simp
      have d2 : ((t.enc.length : Int) == 0) = false := beq_eq_false_iff_ne.2 (by omega)
      rw [if_neg (by rw [d2]; decide)]
      -- behind the choice of the place
      have tail : ∀ k : Nat, k < t.enc.length →
          ((Fd11 (t.enc.take k)).bind fun (y18, y19) =>
                      if okBytes ((List.replicate 0 (0 : Int)).length + t.enc.length) 1 then
                        if okBytes (((List.replicate 0 (0 : Int)) ++ t.enc).length + m.length) 1 then
                          (Fd11 (((List.replicate 0 (0 : Int)) ++ t.enc) ++ m)).bind fun (y20, y21) =>
                            let x22 : Bool := (decide ((IntKind.i64.wrap ((t.enc.length : Int) + (m.length : Int))) > 65536))
                            if (y19 == 0) = false then
                              if (decide ((m.length : Int) > 0)) = true then
                                if (!x22) = true then
                                  if (y21 != 126) = false then
                                    if x22 = true then
                                      if (y21 != 121) = true then
                                        some false
                                      else
                                        (Fd15 ()).bind fun y23 =>
                                          if y23 = true then
                                            if (decide ((m.length : Int) > 0)) = false then
                                              some (y21 == 0)
                                            else
                                              some true
                                          else
                                            some false
                                    else
                                      (Fd15 ()).bind fun y24 =>
                                        if y24 = true then
                                          if (decide ((m.length : Int) > 0)) = false then
                                            some (y21 == 0)
                                          else
                                            some true
                                        else
                                          some false
                                  else
                                    some false
                                else
                                  if x22 = true then
                                    if (y21 != 121) = true then
                                      some false
                                    else
                                      (Fd15 ()).bind fun y25 =>
                                        if y25 = true then
                                          if (decide ((m.length : Int) > 0)) = false then
                                            some (y21 == 0)
                                          else
                                            some true
                                        else
                                          some false
                                  else
                                    (Fd15 ()).bind fun y26 =>
                                      if y26 = true then
                                        if (decide ((m.length : Int) > 0)) = false then
                                          some (y21 == 0)
                                        else
                                          some true
                                      else
                                        some false
                              else
                                if x22 = true then
                                  if (y21 != 121) = true then
                                    some false
                                  else
                                    (Fd15 ()).bind fun y27 =>
                                      if y27 = true then
                                        if (decide ((m.length : Int) > 0)) = false then
                                          some (y21 == 0)
                                        else
                                          some true
                                      else
                                        some false
                                else
                                  (Fd15 ()).bind fun y28 =>
                                    if y28 = true then
                                      if (decide ((m.length : Int) > 0)) = false then
                                        some (y21 == 0)
                                      else
                                        some true
                                    else
                                      some false
                            else
                              some false
                        else none
                      else none : Option Bool) = some true := by
        intro k hk
        have c1 := cut_short h hk hb
        have c2 := more_behind h m
        have e0 : List.replicate 0 (0 : Int) ++ t.enc = t.enc := rfl
        rw [decode_eq (hb.take k), e0, decode_eq (By.append.2 ⟨hb, hm⟩)]
        simp only [Option.bind_some, alive]
        rw [if_pos (okB1 (by simp only [List.length_replicate]; omega)), if_pos (okB1 (by omega)), wi64 (by omega) (by omega)]
        have d3 : ((decB (t.enc.take k)).2 == 0) = false := by simpa using c1
        rw [if_pos d3]
        by_cases hm0 : m = []
        · subst hm0
          have d4 : decide (((([] : List Int).length : Nat) : Int) > 0) = false := rfl
          rw [List.length_nil, if_neg (by omega), if_pos rfl] at c2
          have d5 : decide ((t.enc.length : Int) + ((([] : List Int).length : Nat) : Int) > 65536) = false := decide_eq_false (by simp only [List.length_nil]; omega)
          rw [if_neg (by rw [d4]; decide), if_neg (by rw [d5]; decide), if_pos trivial, if_pos d4, c2]
          rfl
        · have hmp := List.length_pos_iff.2 hm0
          have d4 : decide ((m.length : Int) > 0) = true := decide_eq_true (by omega)
          rw [if_pos d4]
          by_cases hlong : 65536 < t.enc.length + m.length
          · have d5 : decide ((t.enc.length : Int) + (m.length : Int) > 65536) = true := decide_eq_true (by omega)
            rw [if_pos hlong] at c2
            rw [if_neg (by rw [d5]; decide), if_pos d5, c2, if_neg (by decide), if_pos trivial, if_neg (by rw [d4]; decide)]
          · have d5 : decide ((t.enc.length : Int) + (m.length : Int) > 65536) = false := decide_eq_false (by omega)
            rw [if_neg hlong, if_neg hm0] at c2
            rw [if_pos (by rw [d5]; decide), c2, if_pos (by decide), if_neg (by rw [d5]; decide), if_pos trivial, if_neg (by rw [d4]; decide)]
      have modk : ∀ x : Int, 0 ≤ x → (0 : Int) ≤ x.tmod (t.enc.length : Int) ∧ x.tmod (t.enc.length : Int) < (t.enc.length : Int) := by
        intro x hx
        rw [tmodP hx]
        exact ⟨Int.emod_nonneg _ (by omega), Int.emod_lt_of_pos _ (by omega)⟩
      by_cases hneg : q < 0
      · rw [if_pos (decide_eq_true hneg), if_pos (by omega)]
        rw [wi64 (by omega) (by omega : q + 1 < _), wi64 (by omega) (by omega)]
        obtain ⟨m1, m2⟩ := modk (0 - (q + 1)) (by omega)
        rw [if_pos ⟨m1, by omega⟩]
        exact tail _ (by omega)
      · rw [if_neg (by simpa using hneg), if_pos (by omega)]
        obtain ⟨m1, m2⟩ := modk q (by omega)
        rw [if_pos ⟨m1, by omega⟩]
        exact tail _ (by omega)
    · have d1 : ((encO t).2 != 0) = true := by simpa using h
      rw [if_pos d1, alive]; rfl
end Go.Abs
