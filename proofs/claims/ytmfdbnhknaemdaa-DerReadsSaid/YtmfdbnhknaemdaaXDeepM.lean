/- The own tree: der.Decode tells it, spoil writes into it; the law of reading. -/
import Derived.Test.YtmfdbnhknaemdaaXDecM
set_option linter.unusedVariables false
set_option linter.unusedSimpArgs false
namespace Go.Abs

def cvO : (Tree × List Int) ⊕ Int → ((Int × Unit × Unit) × List Int × List Tree × List Int) ⊕ (Int × Unit)
  | .inl (t, r) => .inl ((t.tag, (), ()), t.body, t.kids, r)
  | .inr e => .inr (e, ())

theorem kids_loopO {G : List Int × Int → Option (((Int × Unit × Unit) × List Int × List Tree × List Int) ⊕ (Int × Unit))} {g : List Int → (Tree × List Int) ⊕ Int} {d t : Int} {out : List Int} (hd : 0 ≤ d ∧ d < 100)
    (hG : ∀ s, By s → s.length ≤ 65536 → G (s, d + 1) = some (cvO (g s))) (hs : ∀ s t r, g s = .inl (t, r) → r.length < s.length) (hby : ∀ s t r, By s → g s = .inl (t, r) → By r) :
    ∀ (m : Nat) (s : List Int) (acc : List Tree), s.length ≤ m → By s → acc.length + s.length ≤ 65536 →
      loopO (stepd40o_0 G) (d, (0, (), ()), (t, (), ()), acc, s, out) = some (match rdKs g m s with | .inl ks => .inr ((0, (), ()), (t, (), ()), acc ++ ks, out) | .inr e => .inl (e, ())) := by
  intro m
  induction m with
  | zero =>
    intro s acc hl hb ha
    have : s = [] := List.eq_nil_of_length_eq_zero (by omega)
    subst this
    rw [loopO_eq]
    have : stepd40o_0 G (d, (0, (), ()), (t, (), ()), acc, [], out) = some (.inr (.inr ((0, (), ()), (t, (), ()), acc, out))) := rfl
    rw [this]
    simp [rdKs]
  | succ m ih =>
    intro s acc hl hb ha
    cases s with
    | nil =>
      rw [loopO_eq]
      have : stepd40o_0 G (d, (0, (), ()), (t, (), ()), acc, [], out) = some (.inr (.inr ((0, (), ()), (t, (), ()), acc, out))) := rfl
      rw [this]
      simp [rdKs]
    | cons x s =>
      rw [loopO_eq]
      have d1 : decide (((x :: s).length : Int) > 0) = true := decide_eq_true (by simp only [List.length_cons]; omega)
      simp only [stepd40o_0, d1, if_true]
      rw [wi64 (by omega) (by omega), hG _ hb (by omega)]
      rw [rdKs_cons]
      cases hg : g (x :: s) with
      | inr e => rfl
      | inl p =>
        obtain ⟨k, r⟩ := p
        have h1 := hs _ _ _ hg
        have h2 := hby _ _ _ hb hg
        simp only [cvO, Option.bind_some]
        rw [if_pos (okB56 (by simp only [List.length_append, List.length_cons, List.length_nil] at *; omega))]
        simp only [Tree.eta]
        rw [ih r (acc ++ [k]) (by simp only [List.length_cons] at *; omega) h2 (by simp only [List.length_append, List.length_cons, List.length_nil] at *; omega)]
        cases rdKs g m r with
        | inl ks => simp
        | inr e => rfl

theorem item_eqO : ∀ (k f : Nat) (s : List Int), f < k → f ≤ 17 → By s → s.length ≤ 65536 → FRd40o k (s, 17 - (f : Int)) = some (cvO (rdI f s)) := by
  intro k
  induction k with
  | zero => intro f s h; omega
  | succ k ih =>
    intro f s hf hf2 hs hl
    show Bd40o (FRd40o k) (s, 17 - (f : Int)) = _
    unfold Bd40o
    cases f with
    | zero => rfl
    | succ f =>
      have d1 : decide ((17 : Int) - ((f + 1 : Nat) : Int) > 16) = false := decide_eq_false (by omega)
      simp only [d1, Bool.false_eq_true, if_false, take_eq]
      cases s with
      | nil => rfl
      | cons x s =>
        obtain ⟨hx, hs⟩ := By.cons.1 hs
        simp only [Option.bind_some, none_tag hx.1 hx.2]
        rw [rdI_cons]
        by_cases h1 : x % 32 = 31
        · rw [if_pos (decide_eq_true h1), if_pos h1]; rfl
        · rw [if_neg (by simpa using h1), if_neg h1, len_eq hs]
          cases hr : rdLen s with
          | inr e => rfl
          | inl p =>
            obtain ⟨n, r⟩ := p
            obtain ⟨e1, e2, e3⟩ := rdLen_spec hs hr
            have hrl := rdLen_short hr
            have hrb := rdLen_by hs hr
            simp only [sw, Option.bind_some, cut_eq e2]
            by_cases h2 : (r.length : Int) < n
            · rw [if_pos h2, if_pos h2]; rfl
            · rw [if_neg h2, if_neg h2]
              have e58 : Fd58 x = some (bltT x) := by simp only [Fd58, blt_tag hx.1 hx.2]
              simp only [Option.bind_some, e58]
              have hlen : (r.take n.toNat).length = n.toNat := take_ge (by omega)
              simp only [List.length_cons] at hl
              cases hb : bltT x with
              | false =>
                simp only [Bool.not_false, if_true, Bool.false_eq_true, if_false]
                have e44 : Fd44 (r.take n.toNat) = some (r.take n.toNat) := by
                  unfold Fd44
                  rw [if_pos (okB1 (by rw [hlen]; omega))]
                rw [e44]; rfl
              | true =>
                simp only [Bool.not_true, Bool.false_eq_true, if_false, if_true]
                rw [kids_loopO (g := rdI f) (by omega) (fun s' h3 h4 => by
                  have := ih f s' (by omega) (by omega) h3 h4
                  rw [show (17 : Int) - ((f + 1 : Nat) : Int) + 1 = 17 - (f : Int) by omega]
                  exact this) (fun s t r h => rdI_short h) (fun s t r h1 h2 => rdI_by h1 h2) n.toNat (r.take n.toNat) [] (by omega) (hrb.take _) (by simp only [List.length_nil]; omega)]
                cases rdKs (rdI f) n.toNat (r.take n.toNat) with
                | inl ks => simp [cvO, Tree.tag, Tree.body, Tree.kids]
                | inr e => rfl


def gO (p : Tree × Int) : (Int × Unit × Unit) × Int × List Int × List Tree := ((p.1.tag, (), ()), p.2, p.1.body, p.1.kids)

theorem decode_eqO {b : List Int} (hb : By b) : Fd11o b = some (((decB b).1.tag, (), ()), (decB b).2, (decB b).1.body, (decB b).1.kids) := by
  have e : FMd11o (b, 0, (0, (), ())) = some (gO (decB b)) := by
    unfold FMd11o decB
    dsimp only
    by_cases h : 65536 < b.length
    · rw [ite_t (decide_eq_true (by omega)), if_pos h]
      rfl
    · rw [ite_f (decide_eq_false (by omega)), if_neg h]
      have h40 : Fd40o (b, 1) = some (cvO (rdI 16 b)) := item_eqO 20 16 b (by omega) (by omega) hb (by omega)
      rw [h40]
      cases hr : rdI 16 b with
      | inr n =>
        have hn := rdI_err hr
        have h1 : FPd38o n (0, (0, (), ()), [], []) = some (.inr (n, (0, (), ()))) := by
          unfold FPd38o
          simp only []
          rw [ite_t (by simp; omega)]
        simp only [cvO, Option.bind_some]
        rw [h1]
        rfl
      | inl p =>
        obtain ⟨t, r⟩ := p
        simp only [cvO, Option.bind_some]
        cases r with
        | nil =>
          rw [ite_f (decide_eq_false (by simp)), if_pos rfl]
          rfl
        | cons x r =>
          rw [ite_t (decide_eq_true (by simp only [List.length_cons]; omega)), if_neg (by simp)]
          rfl
  show (FMd11o (b, 0, (0, (), ()))).bind _ = _
  rw [e]
  rfl

/-! ### spoil -/
theorem spoil_bytes {G : SpT → Option SpT} {c : Int × Unit × Unit} {kids : List Tree} : ∀ (n : Nat) (body : List Int), body.length = n → n ≤ 140737488351232 →
    Ret (loopO (stepd13_0 G) (0, c, body, kids)) fun y => ∃ body', y = ((c.1, (), ()), body', kids) ∧ body'.length = n := by
  intro n body hn hb
  refine loopO_inv (fun i s => ∃ body', s = ((i : Int), (c.1, (), ()), body', kids) ∧ body'.length = n) n ⟨body, rfl, hn⟩ ?_ ?_
  · rintro i s hi ⟨b', rfl, hl⟩
    refine ⟨(((i + 1 : Nat) : Int), (c.1, (), ()), b'.set (i : Int).toNat 99, kids), ?_, _, rfl, by simpa using hl⟩
    show (if (decide ((i : Int) < (b'.length : Int))) = true then _ else _) = _
    rw [ite_t (decide_eq_true (by omega)), if_pos ⟨by omega, by omega⟩, wi64 (by omega) (by omega)]
    rfl
  · rintro s ⟨b', rfl, hl⟩
    refine ⟨((c.1, (), ()), b', kids), ?_, b', rfl, hl⟩
    show (if (decide ((n : Int) < (b'.length : Int))) = true then _ else _) = _
    rw [ite_f (decide_eq_false (by omega))]

theorem spoil_kids {G : SpT → Option SpT} {c : Int × Unit × Unit} {body : List Int} {kids : List Tree} (hk : kids.length ≤ 2513169434843) (hG : ∀ t ∈ kids, ∃ y, G (spX t) = some y) :
    Ret (loopO (stepd13_1 G) (0, c, body, kids)) fun y => ∃ kids', y = ((c.1, (), ()), body, kids') ∧ kids'.length = kids.length := by
  refine loopO_inv (fun i s => ∃ kids', s = ((i : Int), (c.1, (), ()), body, kids') ∧ kids'.length = kids.length ∧ ∀ j, i ≤ j → kids'.getD j dTree = kids.getD j dTree) kids.length ⟨kids, rfl, rfl, fun _ _ => rfl⟩ ?_ ?_
  · rintro i s hi ⟨k', rfl, hl, hj⟩
    have hget : k'.getD i dTree = kids[i] := by rw [hj i (Nat.le_refl _), List.getD_eq_getElem?_getD, List.getElem?_eq_getElem hi]; rfl
    obtain ⟨y, hy⟩ := hG kids[i] (List.getElem_mem hi)
    refine ⟨(((i + 1 : Nat) : Int), (c.1, (), ()), body, ((k'.set i (spY y)).set i (retag 77 ((k'.set i (spY y)).getD i dTree)))), ?_, _, rfl, by simpa using hl, fun j hij => ?_⟩
    · show (if (decide ((i : Int) < (k'.length : Int))) = true then _ else _) = _
      rw [ite_t (decide_eq_true (by omega)), if_pos ⟨by omega, by omega⟩, Int.toNat_natCast, hget, hy]
      simp only [Option.bind_some]
      rw [if_pos ⟨by omega, by simp; omega⟩, wi64 (by omega) (by omega)]
      rfl
    · rw [← hj j (by omega)]
      simp only [List.getD_eq_getElem?_getD]
      rw [List.getElem?_set_ne (by omega), List.getElem?_set_ne (by omega)]
  · rintro s ⟨k', rfl, hl, _⟩
    refine ⟨((c.1, (), ()), body, k'), ?_, k', rfl, hl⟩
    show (if (decide ((kids.length : Int) < (k'.length : Int))) = true then _ else _) = _
    rw [ite_f (decide_eq_false (by omega))]

theorem spoil_ok : ∀ (k : Nat) (t : Tree), TreeOk t → t.rank < k → ∃ y, FRd13 k (spX t) = some y := by
  intro k
  induction k with
  | zero => intro t _ h; omega
  | succ k ih =>
    intro t ht hr
    have hlen := ht.len
    obtain ⟨y1, h1, b1, rfl, hb1⟩ := spoil_bytes (G := FRd13 k) (c := (t.tag, (), ())) (kids := t.kids) t.body.length t.body rfl hlen.1
    obtain ⟨y2, h2, k2, rfl, hk2⟩ := spoil_kids (G := FRd13 k) (c := (t.tag, (), ())) (body := b1 ++ (((List.replicate 2 (0 : Int)).set 0 99).set 1 99)) (kids := t.kids) hlen.2 (fun c hc => ih c (ht.kid hc) (by have := Tree.rank_kid hc; omega))
    show ∃ y, Bd13 (FRd13 k) ((t.tag, (), ()), t.body, t.kids) = some y
    simp only [Bd13]
    rw [h1]
    simp only [Option.bind_some]
    rw [if_pos (okB1 (by simp; omega)), h2]
    simp only [Option.bind_some]
    rw [if_pos (okB56 (by simp; omega)), if_pos ⟨by omega, by simp; omega⟩, wi64 (by omega) (by omega), if_pos ⟨by omega, by simp⟩]
    exact ⟨_, rfl⟩

theorem treeOk_nil : TreeOk (.node 0 [] []) := TreeOk.mk ⟨by omega, by omega⟩ By.nil (by simp) (by simp) (by simp)

theorem decB_ok {b : List Int} (hb : By b) : TreeOk (decB b).1 := by
  by_cases h : (decB b).2 = 0
  · exact (encO_decB hb h).2
  · rw [decB_err h]; exact treeOk_nil

theorem round3 {b : List Int} (hb : By b) {r15 : List Int} {n : Nat} (hn : (r15.drop 0).take n = b) {i : Int} (hi : 0 ≤ i) (hi2 : i < 2) :
    stepd3_0 (b, (0, n), (decB b).2, i, r15, ((decB b).1.tag, (decB b).1.body, (decB b).1.kids)) = some (.inl (b, (0, n), (decB b).2, i + 1, r15, ((decB b).1.tag, (decB b).1.body, (decB b).1.kids))) := by
  show (if (decide (i < 2)) = true then (Fd11o ((r15.drop 0).take n)).bind _ else _) = _
  rw [ite_t (decide_eq_true hi2), hn, decode_eqO hb]
  simp only [Option.bind_some]
  rw [Tree.eta, same12_self (decB_ok hb)]
  simp only [Option.bind_some]
  rw [itf_f (by simp), ite_f (by rfl)]
  obtain ⟨y, hy⟩ := spoil_ok (Tree.rank (spY (spX (decB b).1)) + 1) (decB b).1 (decB_ok hb) (by show (decB b).1.rank < Tree.rank (Tree.node (decB b).1.tag (decB b).1.body (decB b).1.kids) + 1; rw [Tree.eta]; omega)
  have hy : Fd13 (spX (decB b).1) = some y := hy
  rw [hy, wi64 (by omega) (by omega)]
  rfl

theorem reads {b : List Int} (hb : By b) (hl : b.length ≤ 140737488351232) : Fd3 b = some true := by
  simp only [Fd3]
  have e1 : (List.replicate 0 (0 : Int)).length + b.length = b.length := by simp
  have e2 : ((List.replicate 0 (0 : Int)) ++ b) = b := by simp
  rw [e1, e2, if_pos (okB1 (by omega)), if_pos (okB1 (by simp; omega)), if_pos ⟨by omega, by simp only [List.length_append, List.length_set, List.length_replicate]; omega⟩, refDecode hb]
  simp only [Option.bind_some, Int.toNat_natCast, Nat.sub_zero]
  have hn : ((b ++ ((List.replicate 1 (0 : Int)).set 0 170)).drop 0).take b.length = b := by simp
  have hloop : loopO stepd3_0 (b, (0, b.length), (decB b).2, 0, b ++ ((List.replicate 1 (0 : Int)).set 0 170), ((decB b).1.tag, (decB b).1.body, (decB b).1.kids)) = some (.inr (b, (0, b.length), b ++ ((List.replicate 1 (0 : Int)).set 0 170))) := by
    rw [loopO_eq, round3 hb hn (by omega) (by omega)]
    simp only []
    rw [loopO_eq, round3 hb hn (by omega) (by omega)]
    simp only []
    rw [loopO_eq]
    rfl
  rw [hloop]
  simp only [Option.bind_some]
  rw [hn, same_eq (by omega), alive]
  simp only [Option.bind_some, decide_true, if_true]
  rw [wi64 (by omega) (by omega), if_pos ⟨by omega, by simp⟩, if_pos ⟨by omega, by omega⟩]
  have hg : (b ++ ((List.replicate 1 (0 : Int)).set 0 170)).getD (0 + 0 + (b.length : Int).toNat) 0 = 170 := by
    rw [Int.toNat_natCast, List.getD_eq_getElem?_getD, List.getElem?_append_right (by omega)]
    simp
  simp only [Nat.add_zero, Nat.zero_add, Int.toNat_natCast] at hg ⊢
  rw [hg]
  rfl

theorem Reads_law {x0 : List Int} (h0 : ∀ y ∈ x0, (Lit.int .u8 y).wf = true) (g0 : x0.length * 1 ≤ 140737488351232) : Fd3 x0 = some true := reads (By.of h0) (by omega)
end Go.Abs
