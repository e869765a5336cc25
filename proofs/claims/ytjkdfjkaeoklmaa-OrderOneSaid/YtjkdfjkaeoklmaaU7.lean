import Derived.Test.YtjkdfjkaeoklmaaU5
import Derived.Test.YtjkdfjkaeoklmaaU6
import Derived.Test.YtjkdfjkaeoklmaaU2
import Derived.Deep.RegionLaw
import Derived.WalkSpells
import Derived.Deep.QuietTactic
namespace Go.Proofs.Ytjkdfjkaeoklmaa.Q
open Go.RowKit Go.Proofs.YtjkdfjkaeoklmaaW.PrintWords Go.Proofs.YtjkdfjkaeoklmaaW.PrintLast Go.Proofs.YtjkdfjkaeoklmaaW.PrintMore
set_option linter.unusedVariables false
set_option linter.unusedSimpArgs false
/-- Which of two numbers is the greater one. -/
def cmpI (a b : Int) : Int := if a < b then -1 else if a > b then 1 else 0
theorem cmpI_val (a b : Int) : cmp_Compare_int.f a b = some (cmpI a b) := by
  simp only [cmp_Compare_int.f, cmp_isNaN_int.f, cmpI, bne_self_eq_false, Option.bind_some]
  split
  · rename_i h; cases h
  · split <;> (try split) <;> rfl
/-- Numbers in a row, the first ones first. -/
def cmpL : List Int → List Int → Int
  | [], [] => 0
  | [], _ :: _ => -1
  | _ :: _, [] => 1
  | x :: l, y :: m => if cmpI x y = 0 then cmpL l m else cmpI x y
theorem rd_at {l : List Int} {i : Nat} (h : i < l.length) : rd l (i : Int) = l[i] := by simp [rd, h]
theorem one_round {α : Type} {g : Nat → Option α} {r : α} (h : ∀ k, g (k + 1) = some r) : Ev g r := ⟨1, fun k hk => by
  obtain ⟨m, rfl⟩ : ∃ m, k = m + 1 := ⟨k - 1, by omega⟩
  exact h m⟩
theorem cmpL_l0 (l m : List Int) (hb : l.length ≤ 9223372036854775807) : ∀ (n i : Nat), l.length - i = n → i ≤ l.length → Ev (fun k => slices_Compare_int_int.l0 k l m l (l.length : Int) (i : Int)) (cmpL (l.drop i) (m.drop i))
  | 0, i, hn, hi => by
    obtain rfl : i = l.length := by omega
    refine one_round (fun k => ?_)
    simp only [slices_Compare_int_int.l0]
    rw [if_neg (by omega), List.drop_length]
    by_cases h : l.length < m.length
    · rw [if_pos (by omega), List.drop_eq_getElem_cons h]; rfl
    · rw [if_neg (by omega), List.drop_of_length_le (by omega)]; rfl
  | n + 1, i, hn, hi => by
    have hlt : i < l.length := by omega
    by_cases hm : i < m.length
    · rw [List.drop_eq_getElem_cons hlt, List.drop_eq_getElem_cons hm, cmpL]
      by_cases hc : cmpI l[i] m[i] = 0
      · rw [if_pos hc]
        refine Ev.step (fun k => ?_) (cmpL_l0 l m hb n (i + 1) (by omega) (by omega))
        simp only [slices_Compare_int_int.l0]
        rw [if_pos (by omega), if_pos (by omega), if_pos (by omega), if_neg (by omega), if_pos (by omega), rd_at hlt, rd_at hm, cmpI_val, Option.bind_some, if_pos hc, w64 (by omega) (by omega)]
        rfl
      · rw [if_neg hc]
        refine one_round (fun k => ?_)
        simp only [slices_Compare_int_int.l0]
        rw [if_pos (by omega), if_pos (by omega), if_pos (by omega), if_neg (by omega), if_pos (by omega), rd_at hlt, rd_at hm, cmpI_val, Option.bind_some, if_neg hc]
    · rw [List.drop_eq_getElem_cons hlt, List.drop_of_length_le (show m.length ≤ i by omega), cmpL]
      refine one_round (fun k => ?_)
      simp only [slices_Compare_int_int.l0]
      rw [if_pos (by omega), if_pos (by omega), if_pos (by omega), if_pos (by omega)]
theorem cmpL_val (l m : List Int) (hb : l.length ≤ 9223372036854775807) : Ev (fun k => slices_Compare_int_int.f k l m) (cmpL l m) := by
  have := cmpL_l0 l m hb _ 0 rfl (Nat.zero_le _)
  simpa [slices_Compare_int_int.f] using this
/-- The first that is not zero. -/
def orP : List Int → Int
  | [] => 0
  | x :: l => if x = 0 then orP l else x
theorem orP_l0 (l : List Int) (hb : l.length ≤ 9223372036854775807) : ∀ (n i : Nat), l.length - i = n → i ≤ l.length → Ev (fun k => cmp_Or_int.l0 k 0 l (l.length : Int) (i : Int)) (orP (l.drop i))
  | 0, i, hn, hi => by
    obtain rfl : i = l.length := by omega
    refine one_round (fun k => ?_)
    simp only [cmp_Or_int.l0]
    rw [if_neg (by omega), List.drop_length]
    rfl
  | n + 1, i, hn, hi => by
    have hlt : i < l.length := by omega
    rw [List.drop_eq_getElem_cons hlt, orP]
    by_cases hc : l[i] = 0
    · rw [if_pos hc]
      refine Ev.step (fun k => ?_) (orP_l0 l hb n (i + 1) (by omega) (by omega))
      simp only [cmp_Or_int.l0]
      rw [if_pos (by omega), if_pos (by omega), if_pos (by omega), rd_at hlt, if_pos hc, w64 (by omega) (by omega)]
      rfl
    · rw [if_neg hc]
      refine one_round (fun k => ?_)
      simp only [cmp_Or_int.l0]
      rw [if_pos (by omega), if_pos (by omega), if_pos (by omega), rd_at hlt, if_neg hc]
theorem orP_val (l : List Int) (hb : l.length ≤ 9223372036854775807) : Ev (fun k => cmp_Or_int.f k l) (orP l) := by
  have := orP_l0 l hb _ 0 rfl (Nat.zero_le _)
  simpa [cmp_Or_int.f] using this
/-- The first tag; 0: none. -/
def firstP (l : List Int) : Int := l.headD 0
theorem first_val (a : Int) (l : List Int) : order_first.f a l = some (firstP l) ∧ intarsiaref26_first.f l = some (firstP l) := by
  cases l with
  | nil => simp [order_first.f, intarsiaref26_first.f, firstP]
  | cons x r =>
    have h1 : ¬ (((x :: r).length : Int) = 0) := by rw [List.length_cons]; omega
    have h2 : (0 : Int) < ((x :: r).length : Int) := by rw [List.length_cons]; omega
    rw [order_first.f, intarsiaref26_first.f, if_neg h1, if_pos h2]
    simp [firstP, rd]
/-- A condition's tests, told on from n; numbers wrap round. -/
def testsP : Int → List S84 → Int
  | n, [] => n
  | n, c :: r => testsP (if (c.f1.length : Int) > 0 then wrap64 (wrap64 (n + (c.f2.length : Int)) + 1) else wrap64 (n + (c.f2.length : Int))) r
theorem rd84_at {l : List S84} {i : Nat} (h : i < l.length) : rd_T84 l (i : Int) = l[i] := by simp [rd_T84, h]
theorem rd65_at {l : List S65} {i : Nat} (h : i < l.length) : rd_T65 l (i : Int) = l[i] := by simp [rd_T65, h]
theorem rd45_at {l : List S45} {i : Nat} (h : i < l.length) : rd_T45 l (i : Int) = l[i] := by simp [rd_T45, h]
theorem rd32_at {l : List S32} {i : Nat} (h : i < l.length) : rd_T32 l (i : Int) = l[i] := by simp [rd_T32, h]
theorem tests_l0 (l : List S84) (hb : l.length ≤ 9223372036854775807) : ∀ (n i : Nat) (x : Int), l.length - i = n → i ≤ l.length → Ev (fun k => test_Tests.l0 k x l (l.length : Int) (i : Int)) (testsP x (l.drop i))
  | 0, i, x, hn, hi => by
    obtain rfl : i = l.length := by omega
    refine one_round (fun k => ?_)
    simp only [test_Tests.l0]
    rw [if_neg (by omega), List.drop_length]
    rfl
  | n + 1, i, x, hn, hi => by
    have hlt : i < l.length := by omega
    rw [List.drop_eq_getElem_cons hlt, testsP]
    refine Ev.step (fun k => ?_) (tests_l0 l hb n (i + 1) _ (by omega) (by omega))
    simp only [test_Tests.l0]
    rw [if_pos (by omega), if_pos (by omega), if_pos (by omega), rd84_at hlt, w64 (x := (i : Int) + 1) (by omega) (by omega)]
    split <;> rfl
theorem rtests_l0 (a : Bool) (b : ByteArray) (l : List S84) (hb : l.length ≤ 9223372036854775807) : ∀ (n i : Nat) (x : Int), l.length - i = n → i ≤ l.length → Ev (fun k => intarsiaref20_Tests.l0 k x (i : Int) a b l) (testsP x (l.drop i))
  | 0, i, x, hn, hi => by
    obtain rfl : i = l.length := by omega
    refine one_round (fun k => ?_)
    simp only [intarsiaref20_Tests.l0]
    rw [if_neg (by omega), List.drop_length]
    rfl
  | n + 1, i, x, hn, hi => by
    have hlt : i < l.length := by omega
    rw [List.drop_eq_getElem_cons hlt, testsP]
    refine Ev.step (fun k => ?_) (rtests_l0 a b l hb n (i + 1) _ (by omega) (by omega))
    simp only [intarsiaref20_Tests.l0]
    rw [if_pos (by omega), if_pos (by omega), rd84_at hlt, w64 (x := (i : Int) + 1) (by omega) (by omega)]
    split <;> rfl
theorem tests_val (a : Bool) (b : ByteArray) (l : List S84) (hb : l.length ≤ 9223372036854775807) : Ev (fun k => test_Tests.f k a b l) (testsP 1 l) ∧ Ev (fun k => intarsiaref20_Tests.f k a b l) (testsP 1 l) := by
  have h1 := tests_l0 l hb _ 0 1 rfl (Nat.zero_le _)
  have h2 := rtests_l0 a b l hb _ 0 1 rfl (Nat.zero_le _)
  exact ⟨by simpa [test_Tests.f] using h1, by simpa [intarsiaref20_Tests.f] using h2⟩
/-- A rule's strength, told on from n. -/
def strP : Int → List S65 → Int
  | n, [] => n
  | n, c :: r => strP (wrap64 (n + testsP 1 c.f2)) r
theorem str_l0 (l : List S65) (hb : l.length ≤ 9223372036854775807) (hc : ∀ c ∈ l, c.f2.length ≤ 9223372036854775807) : ∀ (n i : Nat) (x : Int), l.length - i = n → i ≤ l.length → Ev (fun k => order_Strength.l0 k x l (l.length : Int) (i : Int)) (strP x (l.drop i))
  | 0, i, x, hn, hi => by
    obtain rfl : i = l.length := by omega
    refine one_round (fun k => ?_)
    simp only [order_Strength.l0]
    rw [if_neg (by omega), List.drop_length]
    rfl
  | n + 1, i, x, hn, hi => by
    have hlt : i < l.length := by omega
    rw [List.drop_eq_getElem_cons hlt, strP]
    refine Ev.step (f := fun k => (test_Tests.f k l[i].f0 l[i].f1 l[i].f2).bind fun t => order_Strength.l0 k (wrap64 (x + t)) l (l.length : Int) ((i + 1 : Nat) : Int)) (fun k => ?_) (Ev.bind (tests_val l[i].f0 l[i].f1 _ (hc _ (List.getElem_mem hlt))).1 (str_l0 l hb hc n (i + 1) _ (by omega) (by omega)))
    simp only [order_Strength.l0]
    rw [if_pos (by omega), if_pos (by omega), if_pos (by omega), rd65_at hlt, w64 (x := (i : Int) + 1) (by omega) (by omega)]
    rfl
theorem rstr_l0 (a : ByteArray) (b : List S89) (l : List S65) (hb : l.length ≤ 9223372036854775807) (hc : ∀ c ∈ l, c.f2.length ≤ 9223372036854775807) : ∀ (n i : Nat) (x : Int), l.length - i = n → i ≤ l.length → Ev (fun k => intarsiaref26_Strength.l0 k x (i : Int) a l b) (strP x (l.drop i))
  | 0, i, x, hn, hi => by
    obtain rfl : i = l.length := by omega
    refine one_round (fun k => ?_)
    simp only [intarsiaref26_Strength.l0]
    rw [if_neg (by omega), List.drop_length]
    rfl
  | n + 1, i, x, hn, hi => by
    have hlt : i < l.length := by omega
    rw [List.drop_eq_getElem_cons hlt, strP]
    refine Ev.step (f := fun k => (intarsiaref20_Tests.f k l[i].f0 l[i].f1 l[i].f2).bind fun t => intarsiaref26_Strength.l0 k (wrap64 (x + t)) ((i + 1 : Nat) : Int) a l b) (fun k => ?_) (Ev.bind (tests_val l[i].f0 l[i].f1 _ (hc _ (List.getElem_mem hlt))).2 (rstr_l0 a b l hb hc n (i + 1) _ (by omega) (by omega)))
    simp only [intarsiaref26_Strength.l0]
    rw [if_pos (by omega), if_pos (by omega), rd65_at hlt, w64 (x := (i : Int) + 1) (by omega) (by omega)]
    rfl
theorem str_val (a : ByteArray) (l : List S65) (b : List S89) (hb : l.length ≤ 9223372036854775807) (hc : ∀ c ∈ l, c.f2.length ≤ 9223372036854775807) : Ev (fun k => order_Strength.f k a l b) (strP 0 l) ∧ Ev (fun k => intarsiaref26_Strength.f k a l b) (strP 0 l) := by
  have h1 := str_l0 l hb hc _ 0 0 rfl (Nat.zero_le _)
  have h2 := rstr_l0 a b l hb hc _ 0 0 rfl (Nat.zero_le _)
  exact ⟨by simpa [order_Strength.f] using h1, by simpa [intarsiaref26_Strength.f] using h2⟩
/-- What is asked of rules' lengths. -/
def okRules (l : List S45) : Prop := l.length ≤ 9223372036854775807 ∧ ∀ r ∈ l, r.f1.length ≤ 9223372036854775807 ∧ ∀ c ∈ r.f1, c.f2.length ≤ 9223372036854775807
/-- The strength of a rule's place. -/
def strAt (l : List S45) (i : Int) : Int := if 0 ≤ i ∧ i < (l.length : Int) then strP 0 (rd_T45 l i).f1 else 0
theorem strAt_val (l : List S45) (h : okRules l) (a i : Int) : Ev (fun k => order_orderer_strength.f k l a i) (strAt l i) ∧ Ev (fun k => intarsiaref26_strength.f k l i) (strAt l i) := by
  by_cases h0 : i < 0
  · have e : strAt l i = 0 := by rw [strAt, if_neg (by omega)]
    rw [e]
    exact ⟨⟨0, fun k _ => by simp only [order_orderer_strength.f]; rw [if_pos h0]⟩, ⟨0, fun k _ => by simp only [intarsiaref26_strength.f]; rw [if_pos h0]⟩⟩
  · by_cases h1 : i ≥ (l.length : Int)
    · have e : strAt l i = 0 := by rw [strAt, if_neg (by omega)]
      rw [e]
      exact ⟨⟨0, fun k _ => by simp only [order_orderer_strength.f]; rw [if_neg h0, if_pos h1]⟩, ⟨0, fun k _ => by simp only [intarsiaref26_strength.f]; rw [if_neg h0, if_pos h1]⟩⟩
    · obtain ⟨n, rfl⟩ := Int.eq_ofNat_of_zero_le (show 0 ≤ i by omega)
      have hn : n < l.length := by omega
      have hr := h.2 l[n] (List.getElem_mem hn)
      have e : strAt l (n : Int) = strP 0 l[n].f1 := by rw [strAt, if_pos (by omega), rd45_at hn]
      have hv := str_val l[n].f0 l[n].f1 l[n].f2 hr.1 hr.2
      rw [e]
      constructor
      · refine Ev.congr (f := fun k => (order_Strength.f k l[n].f0 l[n].f1 l[n].f2).bind fun t => some t) (fun k => ?_) (Ev.bind hv.1 (Ev.now _))
        rw [order_orderer_strength.f, if_neg h0, if_neg h1, if_pos (by omega), if_pos (by omega), rd45_at hn]
      · refine Ev.congr (f := fun k => (intarsiaref26_Strength.f k l[n].f0 l[n].f1 l[n].f2).bind fun t => some t) (fun k => ?_) (Ev.bind hv.2 (Ev.now _))
        rw [intarsiaref26_strength.f, if_neg h0, if_neg h1, if_pos (by omega), if_pos (by omega), rd45_at hn]
end Go.Proofs.Ytjkdfjkaeoklmaa.Q
namespace Go.Proofs.Ytjkdfjkaeoklmaa.Q
open Go.RowKit Go.Proofs.YtjkdfjkaeoklmaaW.PrintWords Go.Proofs.YtjkdfjkaeoklmaaW.PrintLast Go.Proofs.YtjkdfjkaeoklmaaW.PrintMore
set_option linter.unusedVariables false
set_option linter.unusedSimpArgs false
end Go.Proofs.Ytjkdfjkaeoklmaa.Q
namespace Go.Proofs.Ytjkdfjkaeoklmaa.Q
open Go.RowKit Go.Proofs.YtjkdfjkaeoklmaaW.PrintWords Go.Proofs.YtjkdfjkaeoklmaaW.PrintLast Go.Proofs.YtjkdfjkaeoklmaaW.PrintMore
set_option linter.unusedVariables false
set_option linter.unusedSimpArgs false
theorem cmpI_anti (a b : Int) : cmpI a b = - cmpI b a := by unfold cmpI; split <;> split <;> (try split) <;> (try split) <;> omega
theorem cmpI_zero (a b : Int) : cmpI a b = 0 ↔ a = b := by unfold cmpI; split <;> (try split) <;> omega
theorem cmpL_anti : ∀ (l m : List Int), cmpL l m = - cmpL m l
  | [], [] => rfl
  | [], _ :: _ => rfl
  | _ :: _, [] => rfl
  | x :: l, y :: m => by
    rw [cmpL, cmpL, cmpL_anti l m, cmpI_anti x y]
    by_cases h : cmpI y x = 0
    · rw [if_pos h, if_pos (by omega)]
    · rw [if_neg h, if_neg (by omega)]
theorem cmpL_zero : ∀ (l m : List Int), cmpL l m = 0 ↔ l = m
  | [], [] => by simp [cmpL]
  | [], _ :: _ => by simp [cmpL]
  | _ :: _, [] => by simp [cmpL]
  | x :: l, y :: m => by
    rw [cmpL]
    by_cases h : cmpI x y = 0
    · rw [if_pos h, cmpL_zero l m]
      have := (cmpI_zero x y).1 h
      simp [this]
    · rw [if_neg h]
      have : ¬ x = y := fun e => h ((cmpI_zero x y).2 e)
      simp [h, this]
/-- How two instantiations stand. -/
def compareP (l0 : List S45) (how : Int) (x y : S32) : Int :=
  orP [if how = 1 then cmpI (firstP y.f1) (firstP x.f1) else 0, cmpL (recency y.f1) (recency x.f1), cmpI (strAt l0 y.f0) (strAt l0 x.f0), cmpI x.f0 y.f0, cmpL x.f1 y.f1]
def lessP (l0 : List S45) (how : Int) (x y : S32) : Bool := decide (compareP l0 how x y < 0)
theorem recency_le (l : List Int) (h : l.length ≤ 12) : (recency l).length ≤ 12 := Nat.le_trans (recency_len l) h
theorem compare_val (l0 : List S45) (h0 : okRules l0) (how : Int) (x y : S32) (hx : x.f1.length ≤ 12) (hy : y.f1.length ≤ 12) : Ev (fun k => order_orderer_compare.f k l0 how x.f0 x.f1 y.f0 y.f1) (compareP l0 how x y) := by
  have hj : ∀ mea : Int, Ev (fun k => order_orderer_compare.j0 k mea l0 how x.f0 x.f1 y.f0 y.f1) (orP [mea, cmpL (recency y.f1) (recency x.f1), cmpI (strAt l0 y.f0) (strAt l0 x.f0), cmpI x.f0 y.f0, cmpL x.f1 y.f1]) := by
    intro mea
    refine Ev.step (fun k => by simp only [order_orderer_compare.j0]; rfl) ?_
    refine Ev.bind (a := recency y.f1) ⟨0, fun k _ => by simp only [order_Recency.f]; rw [if_pos hy]⟩ ?_
    refine Ev.bind (a := recency x.f1) ⟨0, fun k _ => by simp only [order_Recency.f]; rw [if_pos hx]⟩ ?_
    refine Ev.bind (cmpL_val _ _ (by have := recency_le _ hy; omega)) ?_
    refine Ev.bind (strAt_val l0 h0 how y.f0).1 ?_
    refine Ev.bind (strAt_val l0 h0 how x.f0).1 ?_
    refine Ev.bind (a := cmpI (strAt l0 y.f0) (strAt l0 x.f0)) ⟨0, fun k _ => cmpI_val _ _⟩ ?_
    refine Ev.bind (a := cmpI x.f0 y.f0) ⟨0, fun k _ => cmpI_val _ _⟩ ?_
    refine Ev.bind (cmpL_val _ _ (by omega)) ?_
    refine Ev.bind (orP_val _ (by simp)) ?_
    exact Ev.now _
  unfold compareP
  by_cases h1 : how = 1
  · refine Ev.congr (f := fun k => order_orderer_compare.j0 k (cmpI (firstP y.f1) (firstP x.f1)) l0 how x.f0 x.f1 y.f0 y.f1) (fun k => ?_) (by rw [if_pos h1]; exact hj _)
    rw [order_orderer_compare.f, if_pos h1, (first_val _ _).1, (first_val _ _).1, Option.bind_some, Option.bind_some, cmpI_val, Option.bind_some]
  · refine Ev.congr (f := fun k => order_orderer_compare.j0 k 0 l0 how x.f0 x.f1 y.f0 y.f1) (fun k => ?_) (by rw [if_neg h1]; exact hj _)
    rw [order_orderer_compare.f, if_neg h1]
theorem less_o_val (l0 : List S45) (h0 : okRules l0) (how : Int) (x y : S32) (hx : x.f1.length ≤ 12) (hy : y.f1.length ≤ 12) : Ev (fun k => order_Less.f k l0 how x.f0 x.f1 y.f0 y.f1) (lessP l0 how x y) := by
  refine Ev.congr (f := fun k => (order_orderer_compare.f k l0 how x.f0 x.f1 y.f0 y.f1).bind fun t => some (decide (t < 0))) (fun k => by rw [order_Less.f]) ?_
  exact Ev.bind (compare_val l0 h0 how x y hx hy) (Ev.now _)
end Go.Proofs.Ytjkdfjkaeoklmaa.Q
namespace Go.Proofs.Ytjkdfjkaeoklmaa.Q
open Go.RowKit Go.Proofs.YtjkdfjkaeoklmaaW.PrintWords
set_option linter.unusedVariables false
set_option linter.unusedSimpArgs false
/-- A comparison that goes on. -/
structure Good {α : Type} (c : α → α → Int) : Prop where
  anti : ∀ x y, c x y = - c y x
  trans : ∀ x y z, c x y ≤ 0 → c y z ≤ 0 → c x z ≤ 0 ∧ (c x z = 0 → c x y = 0 ∧ c y z = 0)
theorem cmpI_cases (a b : Int) : (cmpI a b = -1 ∧ a < b) ∨ (cmpI a b = 0 ∧ a = b) ∨ (cmpI a b = 1 ∧ a > b) := by
  unfold cmpI
  split
  · left; exact ⟨rfl, by assumption⟩
  · split
    · right; right; exact ⟨rfl, by assumption⟩
    · right; left; exact ⟨rfl, by omega⟩
theorem good_cmpI : Good cmpI := ⟨cmpI_anti, fun x y z h1 h2 => by
  rcases cmpI_cases x y with h | h | h <;> rcases cmpI_cases y z with g | g | g <;> rcases cmpI_cases x z with e | e | e <;> omega⟩
theorem good_cmpL : Good cmpL := ⟨cmpL_anti, fun l => by
  induction l with
  | nil =>
    intro m n h1 h2
    cases m <;> cases n <;> simp_all [cmpL]
  | cons x l ih =>
    intro m n h1 h2
    cases m with
    | nil => simp [cmpL] at h1
    | cons y m =>
      cases n with
      | nil => simp [cmpL] at h2
      | cons z n =>
        have g := good_cmpI.trans x y z
        simp only [cmpL] at h1 h2 ⊢
        by_cases a : cmpI x y = 0
        · rw [if_pos a] at h1 ⊢
          by_cases b : cmpI y z = 0
          · rw [if_pos b] at h2 ⊢
            have e : cmpI x z = 0 := by
              have := (cmpI_zero x y).1 a; have := (cmpI_zero y z).1 b; exact (cmpI_zero x z).2 (by omega)
            rw [if_pos e]
            exact ih m n h1 h2
          · rw [if_neg b] at h2 ⊢
            have := g (by omega) h2
            have e : cmpI x z ≠ 0 := fun h => b (this.2 h).2
            rw [if_neg e]
            exact ⟨this.1, fun h => absurd h e⟩
        · rw [if_neg a] at h1 ⊢
          have h3 : cmpI y z ≤ 0 := by
            by_cases b : cmpI y z = 0
            · omega
            · rw [if_neg b] at h2; exact h2
          have := g h1 h3
          have e : cmpI x z ≠ 0 := fun h => a (this.2 h).1
          rw [if_neg e]
          exact ⟨this.1, fun h => absurd h e⟩⟩
theorem Good.key {α β : Type} {c : α → α → Int} (h : Good c) (f : β → α) : Good (fun x y => c (f x) (f y)) := ⟨fun _ _ => h.anti _ _, fun _ _ _ => h.trans _ _ _⟩
theorem Good.flip {α : Type} {c : α → α → Int} (h : Good c) : Good (fun x y => c y x) := ⟨fun _ _ => h.anti _ _, fun x y z h1 h2 => by
  have := h.trans z y x h2 h1
  exact ⟨this.1, fun e => ⟨(this.2 e).2, (this.2 e).1⟩⟩⟩
theorem good_zero {α : Type} : Good (fun _ _ : α => (0 : Int)) := ⟨fun _ _ => rfl, fun _ _ _ _ _ => ⟨Int.le_refl _, fun _ => ⟨rfl, rfl⟩⟩⟩
theorem Good.lex {α : Type} {c d : α → α → Int} (hc : Good c) (hd : Good d) : Good (fun x y => if c x y = 0 then d x y else c x y) := by
  refine ⟨fun x y => ?_, fun x y z h1 h2 => ?_⟩
  · have := hc.anti x y; have := hd.anti x y
    by_cases h : c y x = 0
    · rw [if_pos (by omega), if_pos h]; omega
    · rw [if_neg (by omega), if_neg h]; omega
  · have hxy : c x y ≤ 0 := by
      by_cases h : c x y = 0
      · omega
      · rw [if_neg h] at h1; exact h1
    have hyz : c y z ≤ 0 := by
      by_cases h : c y z = 0
      · omega
      · rw [if_neg h] at h2; exact h2
    have t := hc.trans x y z hxy hyz
    by_cases e : c x z = 0
    · obtain ⟨e1, e2⟩ := t.2 e
      rw [if_pos e1] at h1 ⊢
      rw [if_pos e2] at h2 ⊢
      rw [if_pos e]
      exact hd.trans x y z h1 h2
    · rw [if_neg e]
      exact ⟨t.1, fun h => absurd h e⟩
theorem good_compareP (l0 : List S45) (how : Int) : Good (compareP l0 how) := by
  have h5 : Good (fun x y : S32 => orP [cmpL x.f1 y.f1]) := (good_cmpL.key S32.f1).lex good_zero
  have h4 : Good (fun x y : S32 => orP [cmpI x.f0 y.f0, cmpL x.f1 y.f1]) := (good_cmpI.key S32.f0).lex h5
  have h3 : Good (fun x y : S32 => orP [cmpI (strAt l0 y.f0) (strAt l0 x.f0), cmpI x.f0 y.f0, cmpL x.f1 y.f1]) := ((good_cmpI.key (fun x : S32 => strAt l0 x.f0)).flip).lex h4
  have h2 : Good (fun x y : S32 => orP [cmpL (recency y.f1) (recency x.f1), cmpI (strAt l0 y.f0) (strAt l0 x.f0), cmpI x.f0 y.f0, cmpL x.f1 y.f1]) := ((good_cmpL.key (fun x : S32 => recency x.f1)).flip).lex h3
  by_cases h : how = 1
  · have h1 : Good (fun x y : S32 => if how = 1 then cmpI (firstP y.f1) (firstP x.f1) else 0) := by
      simp only [h, if_true]
      exact (good_cmpI.key (fun x : S32 => firstP x.f1)).flip
    exact h1.lex h2
  · have h1 : Good (fun x y : S32 => if how = 1 then cmpI (firstP y.f1) (firstP x.f1) else 0) := by
      simp only [h, if_false]
      exact good_zero
    exact h1.lex h2
theorem orP_zero : ∀ (l : List Int), orP l = 0 → ∀ a ∈ l, a = 0
  | [], _, _, h => by cases h
  | x :: l, h, a, ha => by
    rw [orP] at h
    split at h
    · rename_i hx
      rcases List.mem_cons.1 ha with rfl | ha
      · exact hx
      · exact orP_zero l h a ha
    · rename_i hx; exact absurd h hx
theorem compareP_zero (l0 : List S45) (how : Int) (x y : S32) : compareP l0 how x y = 0 ↔ x = y := by
  constructor
  · intro h
    have h4 := orP_zero _ h (cmpI x.f0 y.f0) (by simp)
    have h5 := orP_zero _ h (cmpL x.f1 y.f1) (by simp)
    obtain ⟨a, b⟩ := x
    obtain ⟨c, d⟩ := y
    have e1 := (cmpI_zero _ _).1 h4
    have e2 := (cmpL_zero _ _).1 h5
    simp only at e1 e2
    rw [e1, e2]
  · rintro rfl
    have := (good_compareP l0 how).anti x x
    omega
theorem lessP_irr (l0 : List S45) (how : Int) (x : S32) : lessP l0 how x x = false := by
  unfold lessP
  rw [(compareP_zero l0 how x x).2 rfl]
  rfl
theorem lessP_tri (l0 : List S45) (how : Int) (x y : S32) (h : x ≠ y) : lessP l0 how x y = !lessP l0 how y x := by
  have h1 : compareP l0 how x y ≠ 0 := fun e => h ((compareP_zero l0 how x y).1 e)
  have h2 := (good_compareP l0 how).anti x y
  unfold lessP
  by_cases h3 : compareP l0 how x y < 0
  · rw [decide_eq_true h3, decide_eq_false (by omega)]; rfl
  · rw [decide_eq_false h3, decide_eq_true (by omega)]; rfl
theorem lessP_trans (l0 : List S45) (how : Int) (x y z : S32) (h1 : lessP l0 how x y = true) (h2 : lessP l0 how y z = true) : lessP l0 how x z = true := by
  have a := of_decide_eq_true h1
  have b := of_decide_eq_true h2
  have t := (good_compareP l0 how).trans x y z (by omega) (by omega)
  refine decide_eq_true ?_
  have : compareP l0 how x z ≠ 0 := fun e => by have := (t.2 e).1; omega
  have := t.1
  omega
end Go.Proofs.Ytjkdfjkaeoklmaa.Q
namespace Go.Proofs.Ytjkdfjkaeoklmaa.Q
open Go.RowKit Go.Proofs.YtjkdfjkaeoklmaaW.PrintWords Go.Proofs.YtjkdfjkaeoklmaaW.PrintLast Go.Proofs.YtjkdfjkaeoklmaaW.PrintMore
set_option linter.unusedVariables false
set_option linter.unusedSimpArgs false
end Go.Proofs.Ytjkdfjkaeoklmaa.Q
namespace Go.Proofs.Ytjkdfjkaeoklmaa.Q
open Go.RowKit Go.Proofs.YtjkdfjkaeoklmaaW.PrintWords Go.Proofs.YtjkdfjkaeoklmaaW.PrintLast Go.Proofs.YtjkdfjkaeoklmaaW.PrintMore
set_option linter.unusedVariables false
set_option linter.unusedSimpArgs false
/-- The least of some, by the comparison; each is held against the least so far. -/
def minL (k : Nat) (l0 : List S45) (a1 : Int) : S32 → List S32 → Option S32
  | m, [] => some m
  | m, x :: r => (order_orderer_compare.f k l0 a1 x.f0 x.f1 m.f0 m.f1).bind fun t => if t < 0 then minL k l0 a1 x r else minL k l0 a1 m r
theorem minL.mono (l0 : List S45) (a1 : Int) (k : Nat) : ∀ (r : List S32) (m : S32), LeO (minL k l0 a1 m r) (minL (k + 1) l0 a1 m r)
  | [], m => LeO.refl _
  | x :: r, m => LeO.bind (order_orderer_compare.mono _ _ _ _ _ _ k) (fun t => LeO.ite (minL.mono l0 a1 k r x) (minL.mono l0 a1 k r m))

/-- An element of two cells, of whatever kind that reads as an instantiation. -/
theorem elem32 {d : Kd S32} {A : Option Addr} {l : List S32} {W : World} (hx : Kd.C d W A l.length l) (hsz : d.sz = 2) (hd : ∀ y cs, d.K W y cs → k32.K W y cs) (i : Nat) (hi : i < l.length) :
    ∃ ad At ct, A = some ad ∧ d.K W l[i] [.int .i64 l[i].f0, .slice At l[i].f1.length ct] ∧ l[i].f1.length ≤ ct ∧ (Kd.int .i64).C W At l[i].f1.length l[i].f1 ∧ W.cell? (ad.add (i * 2)) = some (.int .i64 l[i].f0) ∧ W.cell? ⟨(ad.add (i * 2)).block, (ad.add (i * 2)).off + 1, none⟩ = some (.slice At l[i].f1.length ct) := by
  obtain ⟨ad, cs, e, hcl, hK, hc⟩ := Kd.C_get hx z32 (i : Int) (by omega) (by omega)
  rw [Int.toNat_natCast, List.getD_eq_getElem?_getD, List.getElem?_eq_getElem hi] at hK
  rw [Int.toNat_natCast, hsz] at hc
  obtain ⟨At, ct, hcs, hlt, hC⟩ := k32_open (hd _ _ hK)
  rw [hcs] at hK hc
  exact ⟨ad, At, ct, e, hK, hlt, hC, hc 0 _ rfl, by rw [← add_field _ _ 1 (by omega)]; exact hc 1 _ rfl⟩

set_option maxHeartbeats 2000000 in
set_option maxRecDepth 100000 in
theorem min39 (k : Nat) (A0 : Option Addr) (c0 : Nat) (l0 : List S45) (a1 : Int) (d : Kd S32) (A : Option Addr) (c : Nat) (l : List S32) (m : S32) (W : World)
    (hr0 : Kd.C k45 W A0 l0.length l0) (hc0 : l0.length ≤ c0) (hx : Kd.C d W A l.length l) (hxc : l.length ≤ c) (hsz : d.sz = 2) (hl : 0 < l.length)
    (hd : ∀ y cs, d.K W y cs → k32.K W y cs) (h : minL k l0 a1 l[0] (l.drop 1) = some m) :
    Calls Try.prog 39 #[.slice A l.length c, .func (.func 24) #[.agg #[.slice A0 l0.length c0, .int .u8 a1]] #[]] W fun e w' => ∃ cs, e = .returned (.agg cs.toArray) ∧ d.K W m cs ∧ Below W.heap.size W w' := by
  have HR := Aside0.mk hr0
  have HX := Aside0.mk hx
  have HD := Aside0.mk hd
  have H := Aside0.mk h
  have hm : l.length ≤ 9223372036854775807 := hx.2.1
  clear hr0 hx hd h
  obtain ⟨ad, At0, ct0, rfl, hK0, hlt0, hC0, hc00, hc01⟩ := elem32 HX.out hsz HD.out 0 hl
  rw [Nat.zero_mul, show ad.add 0 = ad from by simp [Addr.add]] at hc00 hc01
  have HC0 := Aside0.mk (And.intro hK0 (And.intro hlt0 hC0))
  clear hK0 hlt0 hC0
  have hn1 : ¬ ((l.length : Int) < 1) := by omega
  have hu32 := Try.underlying32
  have hn0 : (0 : Int) < (l.length : Int) := by omega
  have HL := Aside0.mk (And.intro hc00 hc01)
  clear hc00 hc01
  go_enter Try.func39, Try.ntmps39
  go_wp2_with (first
    | ((with_reducible refine gate_dst (N := 4) rfl ?_)
       refine box_event ?hg (N := 4) ?hd (cs := #[.int .i64 0, .slice none 0 0]) (t := 32) ?hr ?_
       (case hd => rfl)
       (case hg => rfl)
       (case hr => first | (go_simp; done) | (go_simp; rfl))
       intro g4 hg4 w4 hbox4 hb4
       have hc00 : w4.cell? ad = _ := (hb4.cell (World.block_lt_of_cell? _ _ HL.out.1)).trans HL.out.1
       have hc01 : w4.cell? ⟨ad.block, ad.off + 1, none⟩ = _ := (hb4.cell (World.block_lt_of_cell? _ _ HL.out.2)).trans HL.out.2
       have BK4 := Aside0.mk (And.intro hg4 (And.intro hbox4 hb4))
       clear hg4 hbox4 hb4)
    | ((with_reducible refine gate_dst (N := 5) rfl ?_)
       refine box_event ?hg (N := 5) ?hd (cs := #[.int .i64 0, .slice none 0 0]) (t := 32) ?hr ?_
       (case hd => rfl)
       (case hg => rfl)
       (case hr => first | (go_simp; done) | (go_simp; rfl))
       intro g5 hg5 w5 hbox5 hb5
       have hcz_0 : w5.cell? ⟨g5, 0, none⟩ = some (.int .i64 0) := (blk_cell hbox5 0).trans rfl
       have hcz_1 : w5.cell? ⟨g5, 1, none⟩ = some (.slice none 0 0) := (blk_cell hbox5 1).trans rfl
       have hfz_0 := blk_frozen hbox5 0
       have hfz_1 := blk_frozen hbox5 1
       have BK5 := Aside0.mk (And.intro hg5 (And.intro hbox5 hb5))
       clear hg5 hbox5 hb5))
  have hg45 : g4 < g5 := by
    have h1 := BK5.out.1
    have h2 := blk_lt BK4.out.2.1
    omega
  have hw4 : W.heap.size ≤ g4 := Nat.le_of_eq BK4.out.1.symm
  have HB5 := Aside0.mk (show Below W.heap.size W w5 from below_step BK4.out.2.2 BK5.out.2.2)
  have hgn1 : g4 ≠ g5 := by omega
  have hgn2 : g5 ≠ g4 := by omega
  clear hcz_0 hcz_1 hfz_0 hfz_1 hc00 hc01
  go_loopw [6] (fun v6 wr => ∃ (i : Nat) (mm : S32) (Am : Option Addr) (cm : Nat), v6 = .int .i64 i ∧ 1 ≤ i ∧ i ≤ l.length ∧ Aside0 (wr.heap[g5]? = some (.cells #[.int .i64 mm.f0, .slice Am mm.f1.length cm] 32 (0, 0))) ∧ Aside0 (d.K W mm [.int .i64 mm.f0, .slice Am mm.f1.length cm] ∧ mm.f1.length ≤ cm ∧ (Kd.int .i64).C W Am mm.f1.length mm.f1) ∧ Aside0 (minL k l0 a1 mm (l.drop i) = some m) ∧ Aside0 (Below W.heap.size W wr) ∧ Aside0 (wr.heap[g4]? = some (.cells #[.int .i64 0, .slice none 0 0] 32 (0, 0)))) (fun v6 _ => l.length - (intOf v6).toNat)
  case atStart =>
    refine ⟨1, l[0], At0, ct0, by go_num, Nat.le_refl _, hl, ⟨?_⟩, HC0, H, ⟨?_⟩, ⟨?_⟩⟩
    · exact blk_put (blk_put BK5.out.2.1 0 _ rfl) 1 _ rfl
    · exact below_set (below_set HB5.out (by omega)) (by omega)
    · exact blk_far (blk_far (blk_below BK4.out.2.1 BK5.out.2.2) hgn1 _) hgn1 _
  case round =>
    obtain ⟨i, mm, Am, cm, rfl, hi1, hil, HM, HK, H, HB, HG⟩ := hrel
    by_cases hlt : i < l.length
    · obtain ⟨ad', Ati, cti, e', hKi, hlti, hCi, hci0, hci1⟩ := elem32 HX.out hsz HD.out i hlt
      injection e' with e'
      subst e'
      have HCi := Aside0.mk (And.intro hKi (And.intro hlti hCi))
      clear hKi hlti hCi
      have q1 : (i : Int) < (l.length : Int) := by omega
      have q2 : (0 : Int) ≤ (i : Int) := by omega
      replace hci0 := (HB.out.cell (World.block_lt_of_cell? _ _ hci0)).trans hci0
      replace hci1 := (HB.out.cell (World.block_lt_of_cell? _ _ hci1)).trans hci1
      have hm0 : wr.cell? ⟨g5, 0, none⟩ = some (.int .i64 mm.f0) := (blk_cell HM.out 0).trans rfl
      have hm1 : wr.cell? ⟨g5, 1, none⟩ = some (.slice Am mm.f1.length cm) := (blk_cell HM.out 1).trans rfl
      have hf0 := blk_frozen HM.out 0
      have hf1 := blk_frozen HM.out 1
      have hH := H.out
      rw [List.drop_eq_getElem_cons hlt, minL] at hH
      obtain ⟨t, ht, hH2⟩ := Option.bind_eq_some_iff.1 hH
      have HT := Aside0.mk ht
      have H2 := Aside0.mk hH2
      clear ht hH hH2
      have hlb := World.block_lt_of_cell? _ _ hci0
      have hlb1 := World.block_lt_of_cell? _ _ hci1
      go_wp2_with fail
      go_region_with (
        refine (order_orderer_compare.calls k _ _ l0 a1 _ _ _ _ _ _ _ _ t _ ?s1 ?s2 ?s3 ?s4 ?s5 ?s6 HT.out).mono ?_
        (case s1 => repeat (first | exact Kd.C_below HR.out HB.out | apply Kd.C_drew))
        (case s2 => exact hc0)
        (case s3 => repeat (first | exact Kd.C_below HCi.out.2.2 HB.out | apply Kd.C_drew))
        (case s4 => exact HCi.out.2.1)
        (case s5 => repeat (first | exact Kd.C_below HK.out.2.2 HB.out | apply Kd.C_drew))
        (case s6 => exact HK.out.2.1)
        rintro e w' ⟨rfl, hb⟩
        have HBW := Aside0.mk hb
        clear hb
        go_simp)
      all_goals
        have HBC := Aside0.mk (show Below W.heap.size W w' from below_step HB.out (Below.trans (below_drew (Below.refl wr.heap.size wr)) HBW.out))
        have hb1 : Below wr.heap.size wr w' := Below.trans (below_drew (Below.refl wr.heap.size wr)) HBW.out
        have hk5 := blk_below HM.out hb1
        have hk4 := blk_below HG.out hb1
        replace hci0 := (hb1.cell hlb).trans hci0
        replace hci1 := (hb1.cell (World.block_lt_of_cell? _ _ hci1)).trans hci1
        clear hb1 hm0 hm1 hf0 hf1
        have hm0 : w'.cell? ⟨g5, 0, none⟩ = some (.int .i64 mm.f0) := (blk_cell hk5 0).trans rfl
        have hm1 : w'.cell? ⟨g5, 1, none⟩ = some (.slice Am mm.f1.length cm) := (blk_cell hk5 1).trans rfl
        have hf0 := blk_frozen hk5 0
        have hf1 := blk_frozen hk5 1
        have HK5 := Aside0.mk hk5
        have HK4 := Aside0.mk hk4
        clear hk5 hk4
        by_cases ht : t < 0
        · have H3 := H2.out
          rw [if_pos ht] at H3
          have H4 := Aside0.mk H3
          clear H3
          go_wp2_with fail
          go_roundw
          case rel => exact ⟨i + 1, l[i], Ati, cti, by go_num, by omega, by omega, ⟨blk_put (blk_put HK5.out 0 _ rfl) 1 _ rfl⟩, HCi, H4, ⟨below_set (below_set HBC.out (by omega)) (by omega)⟩, ⟨blk_far (blk_far HK4.out hgn1 _) hgn1 _⟩⟩
          case measure => simp [intOf]; omega
        · have H3 := H2.out
          rw [if_neg ht] at H3
          have H4 := Aside0.mk H3
          clear H3
          go_wp2_with fail
          go_roundw
          case rel => exact ⟨i + 1, mm, Am, cm, by go_num, by omega, by omega, HK5, HK, H4, HBC, HK4⟩
          case measure => simp [intOf]; omega
    · obtain rfl : i = l.length := by omega
      have hm0 : wr.cell? ⟨g5, 0, none⟩ = some (.int .i64 mm.f0) := (blk_cell HM.out 0).trans rfl
      have hm1 : wr.cell? ⟨g5, 1, none⟩ = some (.slice Am mm.f1.length cm) := (blk_cell HM.out 1).trans rfl
      have hn0 : wr.cell? ⟨g4, 0, none⟩ = some (.int .i64 0) := (blk_cell HG.out 0).trans rfl
      have hn1 : wr.cell? ⟨g4, 1, none⟩ = some (.slice none 0 0) := (blk_cell HG.out 1).trans rfl
      have hf0 := blk_frozen HG.out 0
      have hf1 := blk_frozen HG.out 1
      go_wp2_with fail
      refine bodyPost_ret (results_single rfl (.cell g4 32 #[.int .i64 mm.f0, .slice Am mm.f1.length cm] (0, 0) _ rfl (blk_put (blk_put HG.out 0 _ rfl) 1 _ rfl) Try.underlying32 rfl (by kernel_rfl) .nil)) rfl ?_
      have e : mm = m := by
        have h := H.out
        rw [List.drop_length, minL] at h
        exact Option.some.inj h
      subst e
      exact ⟨_, rfl, HK.out.1, below_set (below_set HB.out hw4) hw4⟩
end Go.Proofs.Ytjkdfjkaeoklmaa.Q
namespace Go.Proofs.Ytjkdfjkaeoklmaa.Q
open Go.RowKit Go.Proofs.YtjkdfjkaeoklmaaW.PrintWords Go.Proofs.YtjkdfjkaeoklmaaW.PrintLast Go.Proofs.YtjkdfjkaeoklmaaW.PrintMore
set_option linter.unusedVariables false
set_option linter.unusedSimpArgs false
/-- The least of some instantiations; none of none. -/
def minOf (k : Nat) (l0 : List S45) (a1 : Int) : List S32 → Option (Int × List Int × Bool)
  | [] => some (0, [], false)
  | x :: r => (minL k l0 a1 x r).bind fun m => some (m.f0, m.f1, true)
def order_Select.f (k : Nat) (l0 : List S45) (a1 : Int) (l2 : List S38) : Option (Int × List Int × Bool) :=
  if l2.length < 4398046511104 then minOf k l0 a1 ((l2.filter fun x => !x.f1).map (·.f0)) else none
theorem order_Select.mono : ∀ a0 a1 a2 k, LeO (order_Select.f k a0 a1 a2) (order_Select.f (k + 1) a0 a1 a2) := by
  intro a0 a1 a2 k
  unfold order_Select.f
  refine LeO.ite ?_ (LeO.none _)
  cases (a2.filter fun x => !x.f1).map (·.f0) with
  | nil => exact LeO.refl _
  | cons x r => exact LeO.bind (minL.mono _ _ _ _ _) (fun _ => LeO.refl _)
/-- An instantiation that is read, its tags' place told, in a world that is past. -/
def kF (w : World) (p : Nat → Prop) : Kd S32 where
  sz := 2
  E := []
  K := fun _ x cs => Kd.FK k32 w p x cs
  M := fun _ _ _ x cs => Kd.FK k32 w p x cs
  K_len := fun h => k32.K_len (Kd.FK_now h)
  K_one := fun h => k32.K_one (Kd.FK_now h)
  K_below := fun _ h => h
  K_of_M := fun h => h
  M_mono := fun _ h => h
  M_bound := fun h => h
  M_move := fun _ h => h
  M_lower := fun _ h => h
theorem elem38 {W : World} {base n c : Nat} {P : Nat → Prop} {A : Option Addr} {l : List S38} (h : Kd.V k38 38 W base P (.slice A n c) l) (i : Nat) (hi : i < l.length) :
    ∃ ad At ct, A = some ad ∧ Kd.FK k32 W P l[i].f0 [.int .i64 l[i].f0.f0, .slice At l[i].f0.f1.length ct] ∧ W.cell? (ad.add (i * 3)) = some (.int .i64 l[i].f0.f0) ∧ W.cell? ⟨(ad.add (i * 3)).block, (ad.add (i * 3)).off + 1, none⟩ = some (.slice At l[i].f0.f1.length ct) ∧ W.cell? ⟨(ad.add (i * 3)).block, (ad.add (i * 3)).off + 2, none⟩ = some (.bool l[i].f1) := by
  obtain ⟨hn, hc, hF⟩ := Kd.V_at h
  subst hn
  obtain ⟨ad, e, _⟩ := (Kd.F_now hF).2.2 (by omega)
  subst e
  obtain ⟨cs, hl, hK, hcc⟩ := Kd.V_get h z38 (i : Int) (by omega) (by omega)
  rw [Int.toNat_natCast, List.getD_eq_getElem?_getD, List.getElem?_eq_getElem hi] at hK
  rw [Int.toNat_natCast] at hcc
  obtain ⟨At, ct, hcs, hlt, hF2⟩ := k38_openF hK
  rw [hcs] at hcc
  exact ⟨ad, At, ct, rfl, k32_mkF W P _ hlt hF2, hcc 0 _ rfl, by rw [← add_field _ _ 1 (by omega)]; exact hcc 1 _ rfl, by rw [← add_field _ _ 2 (by omega)]; exact hcc 2 _ rfl⟩
theorem box32 {Rr : S32 → List Value → Prop} (W : World) (g : Nat) (hg : W.heap.size = g) (x : S32) (a b : Value) (h : Rr x [a, b]) : ReadsRow Rr 2 (W.alloc (.cells #[a, b] 32)) (some ⟨g, 0, none⟩) 1 [x] := by
  subst hg
  refine ⟨rfl, by omega, fun _ => ⟨_, rfl, fun j p hj => ?_⟩⟩
  match j, hj with
  | 0, hj =>
    obtain rfl := Option.some.inj hj
    refine ⟨[a, b], rfl, h, fun i u hu => ?_⟩
    rw [add_plain]
    match i, hu with
    | 0, hu => simpa using hu
    | 1, hu => simpa using hu

set_option maxHeartbeats 2000000 in
set_option maxRecDepth 100000 in
theorem order_Select.calls (k : Nat) (A0 : Option Addr) (c0 : Nat) (l0 : List (S45)) (a1 : Int) (P2_ : Nat → Prop) (A2 : Option Addr) (c2 : Nat) (l2 : List (S38)) (r1 : Int) (r2 : List Int) (r3 : Bool) (w : World) (hr0 : Kd.C k45 w A0 l0.length l0) (hc0 : l0.length ≤ c0) (hs2 : Kd.V k38 38 w w.heap.size (fun k_ => P2_ k_) (.slice A2 l2.length c2) l2) (h : order_Select.f k l0 a1 l2 = some (r1, r2, r3)) :
    Calls Try.prog 19 #[.slice A0 l0.length c0, .int .u8 a1, .slice A2 l2.length c2] w fun e w' => ∃ v1_ : Value, e = .returned (.tuple #[.agg #[.int .i64 r1, v1_], .bool r3]) ∧ Kd.V (Kd.int .i64) 3 w' w.heap.size (fun k_ => (P2_ k_ ∨ w.heap.size ≤ k_)) v1_ r2 ∧ Below w.heap.size w w' := by
  unfold order_Select.f at h
  have hbig : l2.length < 4398046511104 := by
    by_cases hb : l2.length < 4398046511104
    · exact hb
    · rw [if_neg hb] at h; cases h
  rw [if_pos hbig] at h
  have HR := Aside0.mk hr0
  have HS := Aside0.mk hs2
  have H := Aside0.mk h
  clear hr0 hs2 h
  go_enter Try.func19, Try.ntmps19
  go_wp2_with (first
    | ((with_reducible refine gate_dst (N := 6) rfl ?_)
       refine box_event ?hg (N := 6) ?hd (cs := #[.int .i64 0, .slice none 0 0]) (t := 32) ?hr ?_
       (case hd => rfl)
       (case hg => rfl)
       (case hr => first | (go_simp; done) | (go_simp; rfl))
       intro g6 hg6 w6 hbox6 hb6
       have BK6 := Aside0.mk (And.intro hg6 (And.intro hbox6 hb6))
       clear hg6 hbox6 hb6))
  have hw6 : w.heap.size ≤ g6 := Nat.le_of_eq BK6.out.1.symm
  go_loopw [8, 10, 13] (fun v8 _ v13 wr => ∃ (i : Nat), v13 = .int .i64 i ∧ i ≤ l2.length ∧ Aside0 ((kF w P2_).R 32 wr w.heap.size (fun k => k ≠ g6) v8 (((l2.take i).filter fun x => !x.f1).map (·.f0))) ∧ Aside0 (Below w.heap.size w wr) ∧ Aside0 (wr.heap[g6]? = some (.cells #[.int .i64 0, .slice none 0 0] 32 (0, 0)))) (fun _ _ v13 _ => l2.length - (intOf v13).toNat)
  case atStart => exact ⟨0, rfl, Nat.zero_le _, ⟨by simpa using Kd.R_nil _ _ _ _ _⟩, ⟨BK6.out.2.2⟩, ⟨BK6.out.2.1⟩⟩
  case round =>
    obtain ⟨i, rfl, hi, HO, HB, HG⟩ := hrel
    by_cases hlt : i < l2.length
    · obtain ⟨ad, At, ct, rfl, hFK, hc0', hc1', hc2'⟩ := elem38 HS.out i hlt
      have HFK := Aside0.mk hFK
      clear hFK
      have q1 : (i : Int) < (l2.length : Int) := by omega
      have q2 : (0 : Int) ≤ (i : Int) := by omega
      replace hc0' := (HB.out.cell (World.block_lt_of_cell? _ _ hc0')).trans hc0'
      replace hc1' := (HB.out.cell (World.block_lt_of_cell? _ _ hc1')).trans hc1'
      replace hc2' := (HB.out.cell (World.block_lt_of_cell? _ _ hc2')).trans hc2'
      have htake : ((l2.take (i + 1)).filter fun x => !x.f1).map (·.f0) = ((l2.take i).filter fun x => !x.f1).map (·.f0) ++ (if l2[i].f1 then [] else [l2[i].f0]) := by
        rw [List.take_succ_eq_append_getElem hlt, List.filter_append, List.map_append]
        congr 1
        cases h : l2[i].f1 <;> simp [h]
      have HT := Aside0.mk htake
      clear htake
      have hlen : (((l2.take i).filter fun x => !x.f1).map (·.f0)).length ≤ l2.length := by
        rw [List.length_map]
        exact Nat.le_trans (List.length_filter_le _ _) (by rw [List.length_take]; omega)
      cases hf : l2[i].f1 with
      | true =>
        rw [hf] at hc2'
        rw [hf] at HT
        go_wp2_with (first
          | ((with_reducible refine gate_dst (N := 10) rfl ?_)
             refine box_event ?hg (N := 10) ?hd (cs := #[.int .i64 0, .slice none 0 0, .bool false]) (t := 38) ?hr ?_
             (case hd => rfl)
             (case hg => rfl)
             (case hr => first | (go_simp; done) | (go_simp; rfl))
             intro g10 hg10 w10 hbox10 hb10
             replace hc0' := (hb10.cell (World.block_lt_of_cell? _ _ hc0')).trans hc0'
             replace hc1' := (hb10.cell (World.block_lt_of_cell? _ _ hc1')).trans hc1'
             replace hc2' := (hb10.cell (World.block_lt_of_cell? _ _ hc2')).trans hc2'
             have hcz_0 : w10.cell? ⟨g10, 0, none⟩ = some (.int .i64 0) := (blk_cell hbox10 0).trans rfl
             have hcz_1 : w10.cell? ⟨g10, 1, none⟩ = some (.slice none 0 0) := (blk_cell hbox10 1).trans rfl
             have hcz_2 : w10.cell? ⟨g10, 2, none⟩ = some (.bool false) := (blk_cell hbox10 2).trans rfl
             have hfz_0 := blk_frozen hbox10 0
             have hfz_1 := blk_frozen hbox10 1
             have hfz_2 := blk_frozen hbox10 2
             have BK10 := Aside0.mk (And.intro hg10 (And.intro hbox10 hb10))
             clear hg10 hbox10 hb10))
        go_roundw
        case rel =>
          have hbx : Below wr.heap.size wr (((w10.setCell ⟨g10, 0, none⟩ (.int .i64 l2[i].f0.f0)).setCell ⟨g10, 1, none⟩ (.slice At l2[i].f0.f1.length ct)).setCell ⟨g10, 2, none⟩ (.bool true)) := below_set (below_set (below_set BK10.out.2.2 (Nat.le_of_eq BK10.out.1.symm)) (Nat.le_of_eq BK10.out.1.symm)) (Nat.le_of_eq BK10.out.1.symm)
          exact ⟨i + 1, by go_num, by omega, ⟨by rw [HT.out, if_pos rfl, List.append_nil]; exact Kd.R_below HO.out hbx⟩, ⟨below_step HB.out hbx⟩, ⟨blk_below HG.out hbx⟩⟩
        case measure => simp [intOf]; omega
      | false =>
        rw [hf] at hc2'
        rw [hf] at HT
        go_wp2_with (first
          | ((with_reducible refine gate_dst (N := 10) rfl ?_)
             refine box_event ?hg (N := 10) ?hd (cs := #[.int .i64 0, .slice none 0 0, .bool false]) (t := 38) ?hr ?_
             (case hd => rfl)
             (case hg => rfl)
             (case hr => first | (go_simp; done) | (go_simp; rfl))
             intro g10 hg10 w10 hbox10 hb10
             replace hc0' := (hb10.cell (World.block_lt_of_cell? _ _ hc0')).trans hc0'
             replace hc1' := (hb10.cell (World.block_lt_of_cell? _ _ hc1')).trans hc1'
             replace hc2' := (hb10.cell (World.block_lt_of_cell? _ _ hc2')).trans hc2'
             have hcz_0 : w10.cell? ⟨g10, 0, none⟩ = some (.int .i64 0) := (blk_cell hbox10 0).trans rfl
             have hcz_1 : w10.cell? ⟨g10, 1, none⟩ = some (.slice none 0 0) := (blk_cell hbox10 1).trans rfl
             have hcz_2 : w10.cell? ⟨g10, 2, none⟩ = some (.bool false) := (blk_cell hbox10 2).trans rfl
             have hfz_0 := blk_frozen hbox10 0
             have hfz_1 := blk_frozen hbox10 1
             have hfz_2 := blk_frozen hbox10 2
             have BK10 := Aside0.mk (And.intro hg10 (And.intro hbox10 hb10))
             clear hg10 hbox10 hb10)
          | (at_builtin
             go_loud (refine Kd.R_append_rows (kF w P2_) (Rr := fun x cs => Kd.FK k32 w P2_ x cs) (w0 := w) w.heap.size rfl _ _ 26 32 (.agg #[.int .i64 0, .slice none 0 0]) 32 rfl Try.underlying26 info32 rfl (Nat.zero_lt_succ 1) (by decide) _ (((l2.take i).filter fun x => !x.f1).map (·.f0)) [l2[i].f0] _ 1 1 (fun k => k ≠ g6) (fun _ => False) rfl rfl ?ho (box32 _ _ (by simp [World.setCell]) _ _ _ HFK.out) (fun _ _ h => h) (fun _ h => h.elim) ?hf ?hB ?hb (by omega) ?_)
             (case ho => exact Kd.R_alloc (Kd.R_below HO.out (below_set (below_set (below_set BK10.out.2.2 (Nat.le_of_eq BK10.out.1.symm)) (Nat.le_of_eq BK10.out.1.symm)) (Nat.le_of_eq BK10.out.1.symm))) _)
             (case hf => intro q hq; have := blk_lt BK10.out.2.1; have := blk_lt HG.out; have := BK10.out.1; simp [World.setCell, World.alloc] at hq; omega)
             (case hB => exact below_alloc (below_step HB.out (below_set (below_set (below_set BK10.out.2.2 (Nat.le_of_eq BK10.out.1.symm)) (Nat.le_of_eq BK10.out.1.symm)) (Nat.le_of_eq BK10.out.1.symm))) _)
             (case hb => have := HB.out.size; have := BK10.out.2.2.size; simp [World.setCell, World.alloc]; omega)
             intro v1 w1 HO1 HB1 hg1 hat1))
        go_roundw
        case rel =>
          exact ⟨i + 1, by go_num, by omega, ⟨by rw [HT.out, if_neg (by decide)]; exact HO1⟩, ⟨HB1⟩, ⟨blk_grown (blk_alloc (blk_below HG.out (below_set (below_set (below_set BK10.out.2.2 (Nat.le_of_eq BK10.out.1.symm)) (Nat.le_of_eq BK10.out.1.symm)) (Nat.le_of_eq BK10.out.1.symm))) _) hg1 (fun e => HO.out.1 _ e.symm rfl)⟩⟩
        case measure => simp [intOf]; omega
    · obtain rfl : i = l2.length := by omega
      have HO2 := HO.out
      rw [List.take_length] at HO2
      have HI := Aside0.mk (Kd.R_reads HO2)
      clear HO2 HO
      have H1 := H.out
      have hln : ((l2.filter fun x => !x.f1).map (·.f0)).length ≤ l2.length := by
        rw [List.length_map]
        exact List.length_filter_le _ _
      generalize hleft : (l2.filter fun x => !x.f1).map (·.f0) = left at *
      obtain ⟨Al, cl, rfl, hlc, hCl⟩ := HI.out
      have HCl := Aside0.mk hCl
      clear hCl hleft HI H
      have hn0 : wr.cell? ⟨g6, 0, none⟩ = some (.int .i64 0) := (blk_cell HG.out 0).trans rfl
      have hn1 : wr.cell? ⟨g6, 1, none⟩ = some (.slice none 0 0) := (blk_cell HG.out 1).trans rfl
      have hf0 := blk_frozen HG.out 0
      have hf1 := blk_frozen HG.out 1
      rcases left with _ | ⟨x, r⟩
      · rw [minOf] at H1
        obtain ⟨rfl, h2⟩ := Prod.mk.inj (Option.some.inj H1)
        obtain ⟨rfl, rfl⟩ := Prod.mk.inj h2
        go_wp2_with fail
        refine bodyPost_ret (results_ct rfl _ _ g6 32 #[.int .i64 0, .slice none 0 0] (0, 0) _ rfl (blk_put (blk_put HG.out 0 _ rfl) 1 _ rfl) Try.underlying32 rfl (by kernel_rfl)) rfl ?_
        exact ⟨_, rfl, Kd.V_nil _ _ _ _ _, below_set (below_set HB.out hw6) hw6⟩
      · rw [minOf] at H1
        obtain ⟨m, hm, h2⟩ := Option.bind_eq_some_iff.1 H1
        obtain ⟨rfl, h3⟩ := Prod.mk.inj (Option.some.inj h2)
        obtain ⟨rfl, rfl⟩ := Prod.mk.inj h3
        clear h2 h3
        have HM := Aside0.mk hm
        clear hm H1
        go_wp2_with (go_at_call 39; refine (min39 k _ _ l0 a1 (kF w P2_) _ _ (x :: r) m _ (Kd.C_below HR.out HB.out) hc0 HCl.out hlc rfl (Nat.zero_lt_succ _) (fun y cs h => k32.K_below HB.out (Kd.FK_now h)) HM.out).mono ?_; rintro e w' ⟨cs, rfl, hK, hb⟩; obtain ⟨Am, cm, rfl, hlm, hFm⟩ := k32_openF hK; have hk6 := blk_below HG.out hb; replace hn0 : w'.cell? ⟨g6, 0, none⟩ = some (.int .i64 0) := (blk_cell hk6 0).trans rfl; replace hn1 : w'.cell? ⟨g6, 1, none⟩ = some (.slice none 0 0) := (blk_cell hk6 1).trans rfl; replace hf0 := blk_frozen hk6 0; replace hf1 := blk_frozen hk6 1; have HK6 := Aside0.mk hk6; have HW := Aside0.mk (And.intro hb (And.intro hlm hFm)); clear hb hlm hFm hk6 hK)
        refine bodyPost_ret (results_ct rfl _ _ g6 32 #[.int .i64 m.f0, .slice Am m.f1.length cm] (0, 0) _ rfl (blk_put (blk_put HK6.out 0 _ rfl) 1 _ rfl) Try.underlying32 rfl (by kernel_rfl)) rfl ?_
        have hB := below_set (below_set (below_step HB.out HW.out.1) hw6 (j := 0) (v := .int .i64 m.f0)) hw6 (j := 1) (v := .slice Am m.f1.length cm)
        exact ⟨_, rfl, Kd.V_mk HW.out.2.1 (Kd.F_mono (Kd.F_below HW.out.2.2 hB) (fun _ h => .inl h)), hB⟩
end Go.Proofs.Ytjkdfjkaeoklmaa.Q
namespace Go.Proofs.Ytjkdfjkaeoklmaa.Q
open Go.RowKit Go.Proofs.YtjkdfjkaeoklmaaW.PrintWords
/-- x, put behind all that it does not come ahead of. -/
def insR (lt : S32 → S32 → Bool) (x : S32) (o : List S32) : List S32 := (o.reverse.dropWhile (lt x)).reverse ++ x :: (o.reverse.takeWhile (lt x)).reverse
def sortL (lt : S32 → S32 → Bool) (l : List S32) : List S32 := l.foldl (fun o x => insR lt x o) []
theorem insR_len (lt : S32 → S32 → Bool) (x : S32) (o : List S32) : (insR lt x o).length = o.length + 1 := by
  have h : (o.reverse.takeWhile (lt x)).length + (o.reverse.dropWhile (lt x)).length = o.length := by
    rw [← List.length_append, List.takeWhile_append_dropWhile, List.length_reverse]
  simp [insR]
  omega
theorem insR_mem (lt : S32 → S32 → Bool) (x : S32) (o : List S32) (y : S32) : y ∈ insR lt x o ↔ y = x ∨ y ∈ o := by
  have h : y ∈ o ↔ y ∈ o.reverse.takeWhile (lt x) ∨ y ∈ o.reverse.dropWhile (lt x) := by
    rw [← List.mem_append, List.takeWhile_append_dropWhile, List.mem_reverse]
  rw [h]
  simp only [insR, List.mem_append, List.mem_reverse, List.mem_cons]
  grind
theorem sortL_snoc (lt : S32 → S32 → Bool) (l : List S32) (x : S32) : sortL lt (l ++ [x]) = insR lt x (sortL lt l) := by simp [sortL]
theorem rev_ind {P : List S32 → Prop} (h0 : P []) (h1 : ∀ l x, P l → P (l ++ [x])) (l : List S32) : P l := by
  rw [← List.reverse_reverse l]
  induction l.reverse with
  | nil => exact h0
  | cons x r ih => rw [List.reverse_cons]; exact h1 _ _ ih
theorem sortL_len (lt : S32 → S32 → Bool) (l : List S32) : (sortL lt l).length = l.length := by
  induction l using rev_ind with
  | h0 => rfl
  | h1 l x ih => rw [sortL_snoc, insR_len, ih]; simp
theorem sortL_mem (lt : S32 → S32 → Bool) (l : List S32) (y : S32) : y ∈ sortL lt l ↔ y ∈ l := by
  induction l using rev_ind with
  | h0 => simp [sortL]
  | h1 l x ih => rw [sortL_snoc, insR_mem, ih]; simp; grind
theorem takeWhile_congr' {p q : S32 → Bool} {l : List S32} (h : ∀ y ∈ l, p y = q y) : l.takeWhile p = l.takeWhile q ∧ l.dropWhile p = l.dropWhile q := by
  induction l with
  | nil => simp
  | cons x r ih =>
    have hx := h x (by simp)
    have hr := ih (fun y hy => h y (by simp [hy]))
    simp only [List.takeWhile_cons, List.dropWhile_cons, hx, hr]
    simp
theorem insR_congr {lt lt' : S32 → S32 → Bool} {x : S32} {o : List S32} (h : ∀ y ∈ o, lt x y = lt' x y) : insR lt x o = insR lt' x o := by
  obtain ⟨h1, h2⟩ := takeWhile_congr' (p := lt x) (q := lt' x) (l := o.reverse) (fun y hy => h y (by simpa using hy))
  simp [insR, h1, h2]
theorem sortL_congr {lt lt' : S32 → S32 → Bool} {l : List S32} (h : ∀ x ∈ l, ∀ y ∈ l, lt x y = lt' x y) : sortL lt l = sortL lt' l := by
  induction l using rev_ind with
  | h0 => rfl
  | h1 l x ih =>
    rw [sortL_snoc, sortL_snoc, ih (fun a ha b hb => h a (by simp [ha]) b (by simp [hb]))]
    exact insR_congr (fun y hy => h x (by simp) y (by rw [sortL_mem] at hy; simp [hy]))
/-- Where x comes to stand. -/
theorem insR_at {lt : S32 → S32 → Bool} {x : S32} {o : List S32} (j : Nat) (hj : j ≤ o.length) (hd : ∀ y ∈ o.drop j, lt x y = true) (ht : ∀ y, (o.take j).getLast? = some y → lt x y = false) : insR lt x o = o.take j ++ x :: o.drop j := by
  have hr : o.reverse = (o.drop j).reverse ++ (o.take j).reverse := by rw [← List.reverse_append, List.take_append_drop]
  have h1 : (o.take j).reverse.takeWhile (lt x) = [] ∧ (o.take j).reverse.dropWhile (lt x) = (o.take j).reverse := by
    cases hc : (o.take j).reverse with
    | nil => simp
    | cons y r =>
      have : (o.take j).getLast? = some y := by rw [← List.head?_reverse, hc]; rfl
      have := ht y this
      simp [this]
  have hd' : ∀ y ∈ (o.drop j).reverse, lt x y = true := fun y hy => hd y (by simpa using hy)
  unfold insR
  rw [hr, List.takeWhile_append_of_pos hd', List.dropWhile_append_of_pos hd', h1.1, h1.2]
  simp
end Go.Proofs.Ytjkdfjkaeoklmaa.Q
namespace Go.Proofs.Ytjkdfjkaeoklmaa.Q
open Go.RowKit Go.Proofs.YtjkdfjkaeoklmaaW.PrintWords
set_option linter.unusedVariables false
/-- A world that only has more behind w's blocks. -/
structure BelowOf (w : World) where
  v : World
  h : Below w.heap.size w v
instance (w : World) : Inhabited (BelowOf w) := ⟨⟨w, Below.refl _ _⟩⟩
theorem BelowOf.cell {w : World} {a : Addr} {u : Value} (h : w.cell? a = some u) (p : BelowOf w) : p.v.cell? a = some u := (p.h.cell (World.block_lt_of_cell? w _ h)).trans h
theorem wp_region_below {P : Program} {id : Nat} {Q : Exit → Act → World → Prop} {a : Act} {w : World} {l : List Oper} (hm : P.follows .mixedOrders = true) (hB : Region.lexB .any l.toArray = true)
    (h : wpQuiet P l.toArray (fun w' => ∃ p : BelowOf w, w' = p.v) (fun a' => ∀ w', (∃ p : BelowOf w, w' = p.v) → Q .normal a' w') l a) : (Code.region id l.toArray true).wp P Q a w :=
  wp_region_quiet (C := fun w' => ∃ p : BelowOf w, w' = p.v) hm hB ⟨⟨w.drew, below_drew (Below.refl _ _)⟩, rfl⟩ (by simpa using h)
theorem below_of {P : Program} {f : FuncId} {args : Array Value} {w : World} {p : BelowOf w} {v : Value}
    (h : Calls P f args p.v fun e w' => e = .returned v ∧ Below p.v.heap.size p.v w') : Calls P f args p.v fun e w'' => e = .returned v ∧ ∃ p' : BelowOf w, w'' = p'.v :=
  h.mono fun _ w' ⟨he, hb⟩ => ⟨he, ⟨w', below_step p.h hb⟩, rfl⟩
end Go.Proofs.Ytjkdfjkaeoklmaa.Q
namespace Go.Proofs.Ytjkdfjkaeoklmaa.Q
open Go.RowKit Go.Proofs.YtjkdfjkaeoklmaaW.PrintWords Go.Proofs.YtjkdfjkaeoklmaaW.PrintLast Go.Proofs.YtjkdfjkaeoklmaaW.PrintMore
set_option linter.unusedVariables false
set_option linter.unusedSimpArgs false
/-- Comes x ahead of y, as the comparison tells it. -/
def ltO (k : Nat) (l0 : List S45) (a1 : Int) (x y : S32) : Bool := match order_orderer_compare.f k l0 a1 x.f0 x.f1 y.f0 y.f1 with | some t => decide (t < 0) | none => false
def allO (k : Nat) (l0 : List S45) (a1 : Int) (l : List S32) : Prop := ∀ x ∈ l, ∀ y ∈ l, (order_orderer_compare.f k l0 a1 x.f0 x.f1 y.f0 y.f1).isSome = true
/-- An element of a row of one's own, of instantiations. -/
theorem elemR {w W : World} {P2 ok : Nat → Prop} {base g n c : Nat} {l : List S32} (h : (kF w P2).R 32 W base ok (.slice (some ⟨g, 0, none⟩) n c) l) (i : Nat) {x : S32} (hi : l[i]? = some x) :
    ∃ At ct, Kd.FK k32 w P2 x [.int .i64 x.f0, .slice At x.f1.length ct] ∧ x.f1.length ≤ ct ∧ (Kd.int .i64).C w At x.f1.length x.f1 ∧ W.cell? ⟨g, i * 2, none⟩ = some (.int .i64 x.f0) ∧ W.cell? ⟨g, i * 2 + 1, none⟩ = some (.slice At x.f1.length ct) ∧ W.frozen? ⟨g, i * 2, none⟩ = false ∧ W.frozen? ⟨g, i * 2 + 1, none⟩ = false := by
  obtain ⟨hn, _⟩ := Kd.R_reads' h
  obtain ⟨hil, hx⟩ := List.getElem?_eq_some_iff.1 hi
  obtain ⟨cs, hl, hM, hc, hf⟩ := Kd.R_elem h z32 (i : Int) (by omega) (by omega)
  have hM : Kd.FK k32 w P2 (l.getD (i : Int).toNat z32) cs := hM
  rw [Int.toNat_natCast, List.getD_eq_getElem?_getD, hi] at hM
  rw [Int.toNat_natCast] at hc hf
  obtain ⟨At, ct, rfl, hlt, hF⟩ := k32_openF hM
  exact ⟨At, ct, hM, hlt, Kd.F_now hF, hc 0 _ rfl, hc 1 _ rfl, hf 0, hf 1⟩
theorem setR {w W : World} {P2 ok : Nat → Prop} {base g n c : Nat} {l : List S32} (h : (kF w P2).R 32 W base ok (.slice (some ⟨g, 0, none⟩) n c) l) (i : Nat) (hi : i < l.length) {x : S32} {a b : Value} (hx : Kd.FK k32 w P2 x [a, b]) :
    (kF w P2).R 32 ((W.setCell ⟨g, i * 2, none⟩ a).setCell ⟨g, i * 2 + 1, none⟩ b) base ok (.slice (some ⟨g, 0, none⟩) n c) (l.set i x) := by
  obtain ⟨hn, _⟩ := Kd.R_reads' h
  obtain ⟨cs, hl, hM, hc, hf⟩ := Kd.R_elem h z32 (i : Int) (by omega) (by omega)
  have := (Kd.R_seg (okp := fun _ => False) (j := 0) (seg := [a, b]) h (i : Int) (by omega) (by omega) hl hc (Nat.le_refl 2) (x' := x) (by
    show Kd.FK k32 w P2 x _
    have : cs.drop 2 = [] := List.drop_of_length_le (by rw [hl]; exact Nat.le_refl 2)
    simpa [this] using hx) (fun _ h => h.elim)).1
  rw [Int.toNat_natCast] at this
  exact this

theorem row_swap (pre rest : List S32) (x : S32) (j : Nat) (hjp : j < pre.length) : ((pre.take (j + 1) ++ x :: (pre.drop (j + 1) ++ rest)).set (j + 1) pre[j]).set j x = pre.take j ++ x :: (pre.drop j ++ rest) := by
  have l1 : (pre.take j).length = j := by rw [List.length_take]; omega
  have l2 : (pre.take (j + 1)).length = j + 1 := by rw [List.length_take]; omega
  rw [List.set_append_right _ _ (by omega), l2, Nat.sub_self, List.set_cons_zero, List.take_succ_eq_append_getElem hjp, List.append_assoc, List.set_append_right _ _ (by omega), l1, Nat.sub_self, List.singleton_append, List.set_cons_zero, List.drop_eq_getElem_cons hjp, List.cons_append]

set_option maxHeartbeats 4000000 in
set_option maxRecDepth 100000 in
theorem ins53 (k : Nat) (A0 : Option Addr) (c0 : Nat) (l0 : List S45) (a1 : Int) (P2 : Nat → Prop) (g c : Nat) (l : List S32) (w W : World)
    (hr0 : Kd.C k45 w A0 l0.length l0) (hc0 : l0.length ≤ c0) (hB : Below w.heap.size w W) (hR : (kF w P2).R 32 W w.heap.size (fun _ => True) (.slice (some ⟨g, 0, none⟩) l.length c) l) (ha : allO k l0 a1 l) :
    Calls Try.prog 53 #[.slice (some ⟨g, 0, none⟩) l.length c, .int .i64 0, .int .i64 l.length, .func (.func 24) #[.agg #[.slice A0 l0.length c0, .int .u8 a1]] #[]] W fun e w' =>
      e = .returned (.tuple #[]) ∧ (kF w P2).R 32 w' w.heap.size (fun _ => True) (.slice (some ⟨g, 0, none⟩) l.length c) (sortL (ltO k l0 a1) l) ∧ Below w.heap.size w w' := by
  have HA := Aside0.mk ha
  have HR0 := Aside0.mk hr0
  have HR := Aside0.mk hR
  have HB := Aside0.mk hB
  have hm : l.length ≤ 9223372036854775807 := by
    obtain ⟨_, _, hC⟩ := Kd.R_reads' hR
    exact hC.2.1
  have hu32 := Try.underlying32
  have hwg : w.heap.size ≤ g := Kd.R_base hR g rfl
  clear ha hr0 hR hB
  go_enter Try.func53, Try.ntmps53
  go_wp2_with fail
  go_loopw [8, 9] (fun v8 v9 wr => ∃ (i : Nat), v8 = .int .i64 i ∧ 1 ≤ i ∧ i ≤ l.length + 1 ∧ Aside0 ((kF w P2).R 32 wr w.heap.size (fun _ => True) (.slice (some ⟨g, 0, none⟩) l.length c) (sortL (ltO k l0 a1) (l.take i) ++ l.drop i)) ∧ Aside0 (Below w.heap.size w wr)) (fun v8 _ _ => l.length + 1 - (intOf v8).toNat)
  case atStart =>
    refine ⟨1, by go_num, Nat.le_refl _, by omega, ⟨?_⟩, HB⟩
    have : sortL (ltO k l0 a1) (l.take 1) ++ l.drop 1 = l := by
      cases l with
      | nil => rfl
      | cons x r => simp [sortL, insR]
    rw [this]
    exact HR.out
  case round =>
    obtain ⟨i, rfl, hi1, hi2, HR, HB⟩ := hrel
    by_cases hlt : i < l.length
    · have q1 : (i : Int) < (l.length : Int) := by omega
      have hpl : (sortL (ltO k l0 a1) (l.take i)).length = i := by rw [sortL_len, List.length_take]; omega
      have hpm : ∀ y ∈ sortL (ltO k l0 a1) (l.take i), y ∈ l := fun y hy => List.mem_of_mem_take ((sortL_mem _ _ _).1 hy)
      have hsn : sortL (ltO k l0 a1) (l.take (i + 1)) = insR (ltO k l0 a1) l[i] (sortL (ltO k l0 a1) (l.take i)) := by rw [List.take_succ_eq_append_getElem hlt, sortL_snoc]
      have hxm : l[i] ∈ l := List.getElem_mem _
      have hdr : l.drop i = l[i] :: l.drop (i + 1) := List.drop_eq_getElem_cons hlt
      rw [hdr] at HR
      generalize sortL (ltO k l0 a1) (l.take i) = pre at *
      generalize hrest : l.drop (i + 1) = rest at *
      generalize l[i] = x at *
      have HPM := Aside0.mk hpm
      have HSN := Aside0.mk hsn
      have HXM := Aside0.mk hxm
      have HRST := Aside0.mk hrest
      clear hpm hsn hxm hdr hrest
      go_wp2_with fail
      go_loopw [9] (fun v9 wr => ∃ (j : Nat), v9 = .int .i64 j ∧ j ≤ i ∧ Aside0 ((kF w P2).R 32 wr w.heap.size (fun _ => True) (.slice (some ⟨g, 0, none⟩) l.length c) (pre.take j ++ x :: (pre.drop j ++ rest))) ∧ Aside0 (∀ y ∈ pre.drop j, ltO k l0 a1 x y = true) ∧ Aside0 (Below w.heap.size w wr)) (fun v9 _ => (intOf v9).toNat)
      case atStart =>
        refine ⟨i, rfl, Nat.le_refl _, ⟨?_⟩, ⟨?_⟩, HB⟩
        · rw [List.take_of_length_le (by omega), List.drop_of_length_le (by omega), List.nil_append]; exact HR.out
        · rw [List.drop_of_length_le (by omega)]; intro y hy; cases hy
      case round =>
        obtain ⟨j, rfl, hji, HR, HD, HB⟩ := hrel
        rcases j with _ | j
        · have hq' : decide ((0 : Int) > 0) = false := rfl
          go_wp2_with fail
          go_quiet (fail)
          go_wp2_with fail
          go_roundw
          case rel =>
            refine ⟨i + 1, by first | rfl | go_num, by omega, by omega, ⟨?_⟩, ⟨pw_below_drewN HB.out _⟩⟩
            have e := insR_at (lt := ltO k l0 a1) (x := x) (o := pre) 0 (by omega) HD.out (by simp)
            rw [HSN.out, e, HRST.out, List.append_assoc]
            exact Kd.R_drewN HR.out _
          case measure => simp [intOf]; omega
        · have hjp : j < pre.length := by omega
          have hx0 : (pre.take (j + 1) ++ x :: (pre.drop (j + 1) ++ rest))[j + 1]? = some x := by
            rw [List.getElem?_append_right (by rw [List.length_take]; omega), List.length_take, Nat.min_eq_left (by omega)]; simp
          have hy0 : (pre.take (j + 1) ++ x :: (pre.drop (j + 1) ++ rest))[j]? = some pre[j] := by
            rw [List.getElem?_append_left (by rw [List.length_take]; omega), List.getElem?_take, if_pos (by omega), List.getElem?_eq_getElem hjp]
          obtain ⟨Ax, cx, hKx, hlx, hCx, hx1, hx2, hx3, hx4⟩ := elemR HR.out (j + 1) hx0
          obtain ⟨Ay, cy, hKy, hly, hCy, hy1, hy2, hy3, hy4⟩ := elemR HR.out j hy0
          have hys := HA.out x HXM.out pre[j] (HPM.out _ (List.getElem_mem _))
          obtain ⟨t, ht⟩ := Option.isSome_iff_exists.1 hys
          have hlt' : ltO k l0 a1 x pre[j] = decide (t < 0) := by simp only [ltO, ht]
          have HT := Aside0.mk ht
          have HL := Aside0.mk hlt'
          have HX := Aside0.mk (And.intro hKx (And.intro hlx hCx))
          have HY := Aside0.mk (And.intro hKy (And.intro hly hCy))
          clear hKx hlx hCx hKy hly hCy hx0 hy0 hys ht hlt'
          have q3 : decide (((j + 1 : Nat) : Int) > 0) = true := decide_eq_true (by omega)
          have q4 : ((j + 1 : Nat) : Int) < (l.length : Int) := by omega
          have q5 : (0 : Int) ≤ ((j + 1 : Nat) : Int) := by omega
          have r3 : decide ((j : Int) + 1 > 0) = true := decide_eq_true (by omega)
          have r4 : (j : Int) + 1 < (l.length : Int) := by omega
          have r5 : (0 : Int) ≤ (j : Int) + 1 := by omega
          have r6 : IntKind.i64.wrap (j : Int) = (j : Int) := by rw [i64_w]; exact w64 (by omega) (by omega)
          have r7 : (j : Int) < (l.length : Int) := by omega
          have bx1 := BelowOf.cell hx1
          have bx2 := BelowOf.cell hx2
          have by1 := BelowOf.cell hy1
          have by2 := BelowOf.cell hy2
          go_wp2_with fail
          refine wp_region_below (by kernel_rfl) (by kernel_rfl) ?_
          repeat (quiet_step (first
            | (refine below_of (order_orderer_compare.calls k _ _ l0 a1 _ _ _ _ _ _ _ _ t _ ?s1 ?s2 ?s3 ?s4 ?s5 ?s6 HT.out)
               (case s1 => exact Kd.C_below HR0.out (below_step HB.out (BelowOf.h _)))
               (case s2 => exact hc0)
               (case s3 => exact Kd.C_below HX.out.2.2 (below_step HB.out (BelowOf.h _)))
               (case s4 => exact HX.out.2.1)
               (case s5 => exact Kd.C_below HY.out.2.2 (below_step HB.out (BelowOf.h _)))
               (case s6 => exact HY.out.2.1))))
          refine wpQuiet_nil ?_
          intro _ hw'
          obtain ⟨pq, hw''⟩ := hw'
          subst hw''
          clear bx1 bx2 by1 by2
          have HRp := Aside0.mk (Kd.R_below HR.out pq.h)
          have HBp := Aside0.mk (below_step HB.out pq.h)
          have hx0 : (pre.take (j + 1) ++ x :: (pre.drop (j + 1) ++ rest))[j + 1]? = some x := by
            rw [List.getElem?_append_right (by rw [List.length_take]; omega), List.length_take, Nat.min_eq_left (by omega)]; simp
          have hy0 : (pre.take (j + 1) ++ x :: (pre.drop (j + 1) ++ rest))[j]? = some pre[j] := by
            rw [List.getElem?_append_left (by rw [List.length_take]; omega), List.getElem?_take, if_pos (by omega), List.getElem?_eq_getElem hjp]
          obtain ⟨fx3, fx4⟩ : pq.v.frozen? ⟨g, (j + 1) * 2, none⟩ = false ∧ pq.v.frozen? ⟨g, (j + 1) * 2 + 1, none⟩ = false := by
            obtain ⟨_, _, _, _, _, _, _, h3, h4⟩ := elemR HRp.out (j + 1) hx0
            exact ⟨h3, h4⟩
          obtain ⟨fy3, fy4⟩ : pq.v.frozen? ⟨g, j * 2, none⟩ = false ∧ pq.v.frozen? ⟨g, j * 2 + 1, none⟩ = false := by
            obtain ⟨_, _, _, _, _, _, _, h3, h4⟩ := elemR HRp.out j hy0
            exact ⟨h3, h4⟩
          have hrow := row_swap pre rest x j hjp
          have HROW := Aside0.mk hrow
          clear hrow
          replace hx1 := BelowOf.cell hx1 pq
          replace hx2 := BelowOf.cell hx2 pq
          replace hy1 := BelowOf.cell hy1 pq
          replace hy2 := BelowOf.cell hy2 pq
          clear hx3 hx4 hy3 hy4 hx0 hy0
          by_cases ht : t < 0
          · go_wp2_with fail
            go_region_with fail
            all_goals
              go_wp2_with fail
              go_roundw
              case rel =>
                refine ⟨j, by first | rfl | go_num, by omega, ⟨?_⟩, ⟨?_⟩, ⟨?_⟩⟩
                · rw [← HROW.out]
                  repeat (first | exact setR (setR HRp.out (j + 1) (by simp; omega) HY.out.1) j (by simp; omega) HX.out.1 | apply Kd.R_drew)
                · intro y hy
                  rw [List.drop_eq_getElem_cons hjp] at hy
                  rcases List.mem_cons.1 hy with rfl | hy
                  · rw [HL.out]; exact decide_eq_true ht
                  · exact HD.out y hy
                · repeat (first | exact HBp.out | refine below_set ?_ hwg | apply below_drew)
              case measure => simp [intOf]; try omega
          · go_wp2_with fail
            go_roundw
            case rel =>
              refine ⟨i + 1, by first | rfl | go_num, by omega, by omega, ⟨?_⟩, HBp⟩
              have e := insR_at (lt := ltO k l0 a1) (x := x) (o := pre) (j + 1) (by omega) HD.out (by
                intro y hy
                have e1 : pre.take (j + 1) = pre.take j ++ [pre[j]] := List.take_succ_eq_append_getElem hjp
                rw [e1, List.getLast?_append] at hy
                simp at hy
                subst hy
                rw [HL.out]
                exact decide_eq_false ht)
              rw [HSN.out, e, HRST.out, List.append_assoc]
              exact HRp.out
            case measure => simp [intOf]; omega
    · go_wp2_with fail
      go_end0
      have h1 : l.take i = l := List.take_of_length_le (by omega)
      have h2 : l.drop i = [] := List.drop_of_length_le (by omega)
      have h3 := HR.out
      rw [h1, h2, List.append_nil] at h3
      exact ⟨rfl, h3, HB.out⟩
end Go.Proofs.Ytjkdfjkaeoklmaa.Q
namespace Go.Proofs.Ytjkdfjkaeoklmaa.Q
open Go.RowKit Go.Proofs.YtjkdfjkaeoklmaaW.PrintWords Go.Proofs.YtjkdfjkaeoklmaaW.PrintLast Go.Proofs.YtjkdfjkaeoklmaaW.PrintMore
set_option linter.unusedVariables false
set_option linter.unusedSimpArgs false

set_option maxHeartbeats 1000000 in
theorem clone30 (P2 : Nat → Prop) (A : Option Addr) (c : Nat) (l : List S32) (w : World) (hs : Kd.V k32 32 w w.heap.size (fun k_ => P2 k_) (.slice A l.length c) l) (hb : l.length < 4398046511104) :
    Calls Try.prog 30 #[.slice A l.length c] w fun e w' => ∃ v, e = .returned v ∧ (kF w P2).R 32 w' w.heap.size (fun _ => True) v l ∧ Below w.heap.size w w' := by
  have qT : ∀ (w : World) (a : Option Addr) (n c n' c' : Nat), (binOp .eql 26 (.slice a n c) (.slice none n' c')).run Try.prog w = .ok (.bool a.isNone) w := fun w a n c n' c' => Lib.run_eql_slice_nil w _ _ a n c n' c' Try.underlying26
  have HF := Aside0.mk (Kd.V_F hs)
  clear hs
  rcases A with _ | ad
  · have h0 : l = [] := by
      rcases l with _ | ⟨x, l⟩
      · rfl
      · obtain ⟨ad, h, _⟩ := (Kd.F_now HF.out).2.2 (by simp)
        cases h
    subst h0
    go_enter Try.func30, Try.ntmps30
    go_wp2
    go_ret
    exact ⟨_, rfl, Kd.R_nil _ _ _ _ _, Below.refl _ _⟩
  · have HRW := Aside0.mk (show ∀ o : Obj, ReadsRow (fun x cs => Kd.FK k32 w P2 x cs) 2 (w.alloc o) (some ad) l.length l from fun o => ReadsRow.imp_ (Kd.F_rows HF.out) (below_alloc (Below.refl _ _) o) (fun _ _ h => h))
    go_enter Try.func30, Try.ntmps30
    go_wp2_with (at_builtin; refine Kd.R_append_rows (kF w P2) (Rr := fun x cs => Kd.FK k32 w P2 x cs) (w0 := w) w.heap.size rfl _ _ 26 32 (.agg #[.int .i64 0, .slice none 0 0]) 32 rfl Try.underlying26 info32 rfl (Nat.zero_lt_succ 1) (by decide) _ [] l (some ad) l.length c (fun _ => True) (fun _ => False) rfl rfl (Kd.R_lit0 (kF w P2) 32 w) (HRW.out _) (fun _ _ h => h) (fun _ h => h.elim) (fun _ _ => trivial) ((Below.refl _ _).alloc (Nat.le_refl _) _) (by simp) (by simp; omega) ?_; intro v1 w1 HO1 HB1 hg1 hat1)
    go_ret
    exact ⟨_, rfl, by simpa using HO1, HB1⟩

theorem ins53e (v : Value) (a b : Nat) (f : Value) (W : World) (hab : b ≤ a + 1) (ha : a < 1000) : Calls Try.prog 53 #[v, .int .i64 a, .int .i64 b, f] W fun e w' => e = .returned (.tuple #[]) ∧ W = w' := by
  have q : ¬ ((a : Int) + 1 < (b : Int)) := by omega
  have q2 : IntKind.i64.wrap ((a : Int) + 1) = (a : Int) + 1 := by rw [i64_w]; exact w64 (by omega) (by omega)
  go_enter Try.func53, Try.ntmps53
  go_wp2_with fail
  refine wp_loop_rounds 1 ?_
  rw [rounds_succ]
  go_wp2_with fail
  go_end0
  exact ⟨rfl, rfl⟩

set_option maxHeartbeats 1000000 in
theorem stable46 (k : Nat) (A0 : Option Addr) (c0 : Nat) (l0 : List S45) (a1 : Int) (P2 : Nat → Prop) (v : Value) (l : List S32) (w W : World)
    (hr0 : Kd.C k45 w A0 l0.length l0) (hc0 : l0.length ≤ c0) (hB : Below w.heap.size w W) (hR : (kF w P2).R 32 W w.heap.size (fun _ => True) v l) (ha : allO k l0 a1 l) (hl : l.length ≤ 20) :
    Calls Try.prog 46 #[v, .int .i64 l.length, .func (.func 24) #[.agg #[.slice A0 l0.length c0, .int .u8 a1]] #[]] W fun e w' =>
      e = .returned (.tuple #[]) ∧ (kF w P2).R 32 w' w.heap.size (fun _ => True) v (sortL (ltO k l0 a1) l) ∧ Below w.heap.size w w' := by
  obtain ⟨A, c, rfl, hlc, hC⟩ := Kd.R_reads hR
  have HR := Aside0.mk hR
  have HB := Aside0.mk hB
  have HR0 := Aside0.mk hr0
  have HA := Aside0.mk ha
  clear hr0 hB hR ha hC
  by_cases h0 : l.length = 0
  · have hn : l = [] := List.eq_nil_of_length_eq_zero h0
    subst hn
    go_enter Try.func46, Try.ntmps46
    go_wp2_with fail
    refine wp_loop_rounds 1 ?_
    rw [rounds_succ]
    go_wp2_with (go_at_call 53; refine (ins53e _ 0 0 _ _ (by omega) (by omega)).mono ?_; rintro e w' ⟨rfl, rfl⟩)
    refine wp_loop_rounds 1 ?_
    rw [rounds_succ]
    go_wp2_with fail
    go_end0
    exact ⟨rfl, HR.out, HB.out⟩
  · have hA : ∃ ad, A = some ad := by
      obtain ⟨_, _, hC⟩ := Kd.R_reads' HR.out
      obtain ⟨ad, h, _⟩ := hC.2.2 (by omega)
      exact ⟨ad, h⟩
    obtain ⟨ad, rfl⟩ := hA
    obtain ⟨g, rfl⟩ := Kd.R_head HR.out
    by_cases h20 : l.length < 20
    · have q1 : ¬ ((20 : Int) ≤ (l.length : Int)) := by omega
      have q2 : ¬ ((20 : Int) < (l.length : Int)) := by omega
      go_enter Try.func46, Try.ntmps46
      go_wp2_with fail
      refine wp_loop_rounds 1 ?_
      rw [rounds_succ]
      go_wp2_with (go_at_call 53; refine (ins53 k _ _ l0 a1 P2 g c l w _ HR0.out hc0 HB.out HR.out HA.out).mono ?_; rintro e w' ⟨rfl, hR, hB⟩)
      refine wp_loop_rounds 1 ?_
      rw [rounds_succ]
      go_wp2_with fail
      go_end0
      exact ⟨rfl, hR, hB⟩
    · have h20 : l.length = 20 := by omega
      have e : (l.length : Int) = 20 := by omega
      have q1 : (20 : Int) ≤ (l.length : Int) := by omega
      have q2 : ¬ ((20 : Int) < (l.length : Int)) := by omega
      have q3 : ¬ ((40 : Int) ≤ (l.length : Int)) := by omega
      have C := ins53 k _ _ l0 a1 P2 g c l w _ HR0.out hc0 HB.out HR.out HA.out
      rw [e] at C
      have HC := Aside0.mk C
      have HE := Aside0.mk e
      clear C e
      replace h20 := Aside0.mk h20
      go_enter Try.func46, Try.ntmps46
      go_wp2_with fail
      refine wp_loop_rounds 2 ?_
      rw [rounds_succ]
      go_wp2_with (go_at_call 53; refine HC.out.mono ?_; rintro e w' ⟨rfl, hR, hB⟩)
      rw [rounds_succ]
      go_wp2_with (go_at_call 53; refine (ins53e _ 20 l.length _ _ (by have := HE.out; omega) (by omega)).mono ?_; rintro e w' ⟨rfl, rfl⟩)
      refine wp_loop_rounds 1 ?_
      rw [rounds_succ]
      go_wp2_with fail
      go_end0
      exact ⟨rfl, hR, hB⟩

set_option maxHeartbeats 1000000 in
theorem stable31 (k : Nat) (A0 : Option Addr) (c0 : Nat) (l0 : List S45) (a1 : Int) (P2 : Nat → Prop) (v : Value) (l : List S32) (w W : World)
    (hr0 : Kd.C k45 w A0 l0.length l0) (hc0 : l0.length ≤ c0) (hB : Below w.heap.size w W) (hR : (kF w P2).R 32 W w.heap.size (fun _ => True) v l) (ha : allO k l0 a1 l) (hl : l.length ≤ 20) :
    Calls Try.prog 31 #[v, .func (.func 24) #[.agg #[.slice A0 l0.length c0, .int .u8 a1]] #[]] W fun e w' =>
      e = .returned (.tuple #[]) ∧ (kF w P2).R 32 w' w.heap.size (fun _ => True) v (sortL (ltO k l0 a1) l) ∧ Below w.heap.size w w' := by
  obtain ⟨A, c, rfl, hlc, hC⟩ := Kd.R_reads hR
  have HR := Aside0.mk hR
  have HB := Aside0.mk hB
  have HR0 := Aside0.mk hr0
  have HA := Aside0.mk ha
  clear hr0 hB hR ha hC
  go_enter Try.func31, Try.ntmps31
  go_wp2_with (go_at_call 46; refine (stable46 k _ _ l0 a1 P2 _ l w _ HR0.out hc0 HB.out HR.out HA.out hl).mono ?_; rintro e w' ⟨rfl, hR, hB⟩)
  go_end0
  exact ⟨rfl, hR, hB⟩

/-- Sorted: as long as the comparison tells all pairs. -/
def order_Sort.f (k : Nat) (l0 : List S45) (a1 : Int) (l2 : List S32) : Option (List S32) :=
  if l2.length ≤ 20 ∧ (l2.all fun x => l2.all fun y => (order_orderer_compare.f k l0 a1 x.f0 x.f1 y.f0 y.f1).isSome) = true then some (sortL (ltO k l0 a1) l2) else none
theorem ltO_mono (k : Nat) (l0 : List S45) (a1 : Int) (x y : S32) (h : (order_orderer_compare.f k l0 a1 x.f0 x.f1 y.f0 y.f1).isSome = true) : (order_orderer_compare.f (k + 1) l0 a1 x.f0 x.f1 y.f0 y.f1).isSome = true ∧ ltO (k + 1) l0 a1 x y = ltO k l0 a1 x y := by
  obtain ⟨t, ht⟩ := Option.isSome_iff_exists.1 h
  have h2 := order_orderer_compare.mono l0 a1 x.f0 x.f1 y.f0 y.f1 k t ht
  simp [ltO, ht, h2]
theorem order_Sort.mono : ∀ a0 a1 a2 k, LeO (order_Sort.f k a0 a1 a2) (order_Sort.f (k + 1) a0 a1 a2) := by
  intro a0 a1 a2 k r h
  unfold order_Sort.f at h ⊢
  split at h
  · rename_i hc
    obtain ⟨h1, h2⟩ := hc
    have h2' : ∀ x ∈ a2, ∀ y ∈ a2, (order_orderer_compare.f k a0 a1 x.f0 x.f1 y.f0 y.f1).isSome = true := fun x hx y hy => List.all_eq_true.1 (List.all_eq_true.1 h2 x hx) y hy
    rw [if_pos ⟨h1, List.all_eq_true.2 fun x hx => List.all_eq_true.2 fun y hy => (ltO_mono k a0 a1 x y (h2' x hx y hy)).1⟩, ← h]
    congr 1
    exact sortL_congr (fun x hx y hy => (ltO_mono k a0 a1 x y (h2' x hx y hy)).2)
  · cases h
theorem kF_V {w W : World} {P2 : Nat → Prop} {base base' : Nat} {v : Value} {l : List S32} (h : (kF w P2).R 32 W base (fun _ => True) v l) (hB : Below w.heap.size w W) (hb : w.heap.size ≤ base) : Kd.V k32 32 W base' (fun k => P2 k ∨ w.heap.size ≤ k) v l := by
  refine Kd.N_V (base := base) (Kd.N_mono (ok := fun k => P2 k ∧ k < w.heap.size ∨ base ≤ k) ?_ (fun k hk => hk.imp And.left (fun h => Nat.le_trans hb h)))
  have hbase : ∀ k, v.ownBlock = some k → base ≤ k := by
    obtain ⟨A, c, rfl⟩ := Kd.R_slice h
    exact fun k hk => Kd.R_base h k hk
  obtain ⟨h0, inner, ho, hr⟩ := h
  refine ⟨fun k hk => .inr (hbase k hk), Kd.chunks 2 l.length inner, Kd.chunks_length _ _ _, ⟨fun k hk => hk.symm, inner, by rw [Kd.chunks_length]; exact ho, Kd.reps_raw hr (fun x c hp => ⟨k32.K_len (Kd.FK_now hp), k32.K_one (Kd.FK_now hp)⟩)⟩, fun j x c hx hc => ?_⟩
  rw [Kd.chunks_get hc]
  have hK : Kd.FK k32 w P2 x _ := hr.2 j x hx
  exact Kd.FK_mono (Kd.FK_below (Kd.FK_bound hK) hB) (fun k hk => ⟨.inl hk, fun e => by have := hbase k e.symm; have := hk.2; omega⟩)
set_option maxHeartbeats 1000000 in
theorem order_Sort.calls (k : Nat) (A0 : Option Addr) (c0 : Nat) (l0 : List (S45)) (a1 : Int) (P2_ : Nat → Prop) (A2 : Option Addr) (c2 : Nat) (l2 : List (S32)) (r : List S32) (w : World) (hr0 : Kd.C k45 w A0 l0.length l0) (hc0 : l0.length ≤ c0) (hs2 : Kd.V k32 32 w w.heap.size (fun k_ => P2_ k_) (.slice A2 l2.length c2) l2) (h : order_Sort.f k l0 a1 l2 = some r) :
    Calls Try.prog 12 #[.slice A0 l0.length c0, .int .u8 a1, .slice A2 l2.length c2] w fun e w' => ∃ v0_ : Value, e = .returned v0_ ∧ Kd.V k32 32 w' w.heap.size (fun k_ => (P2_ k_ ∨ w.heap.size ≤ k_)) v0_ r ∧ Below w.heap.size w w' := by
  unfold order_Sort.f at h
  split at h
  · rename_i hc
    obtain ⟨h1, h2⟩ := hc
    obtain rfl := Option.some.inj h
    have h2' : allO k l0 a1 l2 := fun x hx y hy => List.all_eq_true.1 (List.all_eq_true.1 h2 x hx) y hy
    have HA := Aside0.mk h2'
    have HR0 := Aside0.mk hr0
    have HS := Aside0.mk hs2
    clear h h2 h2' hr0 hs2
    go_enter Try.func12, Try.ntmps12
    go_wp2_with (first
      | (go_at_call 30; refine (clone30 P2_ _ _ l2 _ HS.out (by omega)).mono ?_; rintro e w1 ⟨v, rfl, hR, hB⟩; have HR := Aside0.mk hR; have HB := Aside0.mk hB; clear hR hB)
      | (go_at_call 31; refine (stable31 k _ _ l0 a1 P2_ _ l2 w _ HR0.out hc0 HB.out HR.out HA.out h1).mono ?_; rintro e w2 ⟨rfl, hR2, hB2⟩))
    go_ret
    exact ⟨_, rfl, kF_V hR2 hB2 (Nat.le_refl _), hB2⟩
  · cases h
end Go.Proofs.Ytjkdfjkaeoklmaa.Q
namespace Go.Proofs.Ytjkdfjkaeoklmaa.Q
open Go.RowKit Go.Proofs.YtjkdfjkaeoklmaaW.PrintWords Go.Proofs.YtjkdfjkaeoklmaaW.PrintLast Go.Proofs.YtjkdfjkaeoklmaaW.PrintMore
set_option linter.unusedVariables false
set_option linter.unusedSimpArgs false
def ltR (k : Nat) (l0 : List S45) (a1 : Int) (x y : S32) : Bool := match intarsiaref26_Less.f k l0 a1 x.f0 x.f1 y.f0 y.f1 with | some t => t | none => false
def intarsiaref26_Sort.f (k : Nat) (l0 : List S45) (a1 : Int) (l2 : List S32) : Option (List S32) :=
  if l2.length ≤ 20 ∧ (l2.all fun x => l2.all fun y => (intarsiaref26_Less.f k l0 a1 x.f0 x.f1 y.f0 y.f1).isSome) = true then some (sortL (ltR k l0 a1) l2) else none
theorem ltR_mono (k : Nat) (l0 : List S45) (a1 : Int) (x y : S32) (h : (intarsiaref26_Less.f k l0 a1 x.f0 x.f1 y.f0 y.f1).isSome = true) : (intarsiaref26_Less.f (k + 1) l0 a1 x.f0 x.f1 y.f0 y.f1).isSome = true ∧ ltR (k + 1) l0 a1 x y = ltR k l0 a1 x y := by
  obtain ⟨t, ht⟩ := Option.isSome_iff_exists.1 h
  have h2 := intarsiaref26_Less.mono l0 a1 x.f0 x.f1 y.f0 y.f1 k t ht
  simp [ltR, ht, h2]
theorem intarsiaref26_Sort.mono : ∀ a0 a1 a2 k, LeO (intarsiaref26_Sort.f k a0 a1 a2) (intarsiaref26_Sort.f (k + 1) a0 a1 a2) := by
  intro a0 a1 a2 k r h
  unfold intarsiaref26_Sort.f at h ⊢
  split at h
  · rename_i hc
    obtain ⟨h1, h2⟩ := hc
    have h2' : ∀ x ∈ a2, ∀ y ∈ a2, (intarsiaref26_Less.f k a0 a1 x.f0 x.f1 y.f0 y.f1).isSome = true := fun x hx y hy => List.all_eq_true.1 (List.all_eq_true.1 h2 x hx) y hy
    rw [if_pos ⟨h1, List.all_eq_true.2 fun x hx => List.all_eq_true.2 fun y hy => (ltR_mono k a0 a1 x y (h2' x hx y hy)).1⟩, ← h]
    congr 1
    exact sortL_congr (fun x hx y hy => (ltR_mono k a0 a1 x y (h2' x hx y hy)).2)
  · cases h
theorem elemV {W : World} {base n c : Nat} {P : Nat → Prop} {A : Option Addr} {l : List S32} (h : Kd.V k32 32 W base P (.slice A n c) l) (i : Nat) (hi : i < l.length) :
    ∃ ad At ct, A = some ad ∧ Kd.FK k32 W P l[i] [.int .i64 l[i].f0, .slice At l[i].f1.length ct] ∧ l[i].f1.length ≤ ct ∧ (Kd.int .i64).C W At l[i].f1.length l[i].f1 ∧ W.cell? (ad.add (i * 2)) = some (.int .i64 l[i].f0) ∧ W.cell? ⟨(ad.add (i * 2)).block, (ad.add (i * 2)).off + 1, none⟩ = some (.slice At l[i].f1.length ct) := by
  obtain ⟨hn, hc, hF⟩ := Kd.V_at h
  subst hn
  obtain ⟨ad, e, _⟩ := (Kd.F_now hF).2.2 (by omega)
  subst e
  obtain ⟨cs, hl, hK, hcc⟩ := Kd.V_get h z32 (i : Int) (by omega) (by omega)
  rw [Int.toNat_natCast, List.getD_eq_getElem?_getD, List.getElem?_eq_getElem hi] at hK
  rw [Int.toNat_natCast] at hcc
  obtain ⟨At, ct, hcs, hlt, hF2⟩ := k32_openF hK
  rw [hcs] at hcc hK
  exact ⟨ad, At, ct, rfl, hK, hlt, Kd.F_now hF2, hcc 0 _ rfl, by rw [← add_field _ _ 1 (by omega)]; exact hcc 1 _ rfl⟩
theorem takeS {P : Program} (t e : TypeId) {i : TypeInfo} (ht : P.underlying t = some (.slice e)) (hi : P.info? e = some i) (A : Option Addr) (n c k : Nat) (hk : k ≤ n) (hc : n ≤ c) :
    ∀ W : World, (Instr.slice t (.slice A n c) none (some (.int .i64 (k : Int))) none).run P W = .ok (.slice A k c) W := by
  intro W
  have hel : P.elem t = e := by simp [Program.elem, ht]
  have hu : P.underlying t = some (.slice (P.elem t)) := by rw [hel]; exact ht
  have ha : (A.map fun x => x.add 0) = A := by cases A <;> simp [Addr.add]
  rw [run_slice_h W t A n c hu .i64 (k : Int) (by omega) (by omega), hel]
  simp [sizeOf, typeInfo, hi, sliced, Result.andThen, ha]
theorem cutS {P : Program} (t e : TypeId) {i : TypeInfo} (ht : P.underlying t = some (.slice e)) (hi : P.info? e = some i) (A : Option Addr) (n c m : Nat) (hm : m ≤ n) :
    ∀ W : World, (Instr.slice t (.slice A n c) (some (.int .i64 (m : Int))) none none).run P W = .ok (.slice (if c = m then A else A.map (·.add (m * i.size))) (n - m) (c - m)) W := by
  intro W
  have hel : P.elem t = e := by simp [Program.elem, ht]
  have hu : P.underlying t = some (.slice (P.elem t)) := by rw [hel]; exact ht
  rw [run_slice_l W t A n c hu .i64 (m : Int) (Int.natCast_nonneg _) (by omega), hel]
  simp [sizeOf, typeInfo, hi, sliced, Result.andThen]

theorem C_box32 {w : World} {P2 : Nat → Prop} {x : S32} {a b : Value} (W : World) (h : Kd.FK k32 w P2 x [a, b]) : (kF w P2).C (W.alloc (.cells #[a, b] 32)) (some ⟨W.heap.size, 0, none⟩) 1 [x] := box32 (Rr := fun x cs => Kd.FK k32 w P2 x cs) W _ rfl x a b h
set_option maxHeartbeats 4000000 in
set_option maxRecDepth 100000 in
theorem intarsiaref26_Sort.calls (k : Nat) (A0 : Option Addr) (c0 : Nat) (l0 : List (S45)) (a1 : Int) (P2_ : Nat → Prop) (A2 : Option Addr) (c2 : Nat) (l2 : List (S32)) (r : List S32) (w : World) (hr0 : Kd.C k45 w A0 l0.length l0) (hc0 : l0.length ≤ c0) (hs2 : Kd.V k32 32 w w.heap.size (fun k_ => P2_ k_) (.slice A2 l2.length c2) l2) (h : intarsiaref26_Sort.f k l0 a1 l2 = some r) :
    Calls Try.prog 13 #[.slice A0 l0.length c0, .int .u8 a1, .slice A2 l2.length c2] w fun e w' => ∃ v0_ : Value, e = .returned v0_ ∧ Kd.V k32 32 w' w.heap.size (fun k_ => (P2_ k_ ∨ w.heap.size ≤ k_)) v0_ r ∧ Below w.heap.size w w' := by
  unfold intarsiaref26_Sort.f at h
  split at h
  case isFalse => cases h
  rename_i hc
  obtain ⟨h20, h2⟩ := hc
  obtain rfl := Option.some.inj h
  have HA := Aside0.mk (show ∀ x ∈ l2, ∀ y ∈ l2, (intarsiaref26_Less.f k l0 a1 x.f0 x.f1 y.f0 y.f1).isSome = true from fun x hx y hy => List.all_eq_true.1 (List.all_eq_true.1 h2 x hx) y hy)
  have HR0 := Aside0.mk hr0
  have HS := Aside0.mk hs2
  clear h h2 hr0 hs2
  go_enter Try.func13, Try.ntmps13
  go_wp2_with fail
  go_loopw [7, 8] (fun v7 v8 wr => ∃ (i : Nat), v8 = .int .i64 i ∧ i ≤ l2.length ∧ Aside0 ((kF w P2_).R 32 wr w.heap.size (fun _ => True) v7 (sortL (ltR k l0 a1) (l2.take i))) ∧ Aside0 (Below w.heap.size w wr)) (fun _ v8 _ => l2.length - (intOf v8).toNat)
  case atStart => exact ⟨0, rfl, Nat.zero_le _, ⟨Kd.R_nil _ _ _ _ _⟩, ⟨Below.refl _ _⟩⟩
  case round =>
    obtain ⟨i, rfl, hi, HO, HB⟩ := hrel
    by_cases hlt : i < l2.length
    · obtain ⟨ad, At, ct, rfl, hFK, hlx, hCx, hx1, hx2⟩ := elemV HS.out i hlt
      replace hx1 := (HB.out.cell (World.block_lt_of_cell? _ _ hx1)).trans hx1
      replace hx2 := (HB.out.cell (World.block_lt_of_cell? _ _ hx2)).trans hx2
      have hxm : l2[i] ∈ l2 := List.getElem_mem _
      have hom : ∀ y ∈ sortL (ltR k l0 a1) (l2.take i), y ∈ l2 := fun y hy => List.mem_of_mem_take ((sortL_mem _ _ _).1 hy)
      have hol : (sortL (ltR k l0 a1) (l2.take i)).length ≤ 20 := by rw [sortL_len, List.length_take]; omega
      have hsn : sortL (ltR k l0 a1) (l2.take (i + 1)) = insR (ltR k l0 a1) l2[i] (sortL (ltR k l0 a1) (l2.take i)) := by rw [List.take_succ_eq_append_getElem hlt, sortL_snoc]
      generalize sortL (ltR k l0 a1) (l2.take i) = o at *
      generalize l2[i] = x at *
      have HX := Aside0.mk (And.intro hFK (And.intro hlx hCx))
      have HM := Aside0.mk (And.intro hxm (And.intro hom hsn))
      clear hFK hlx hCx hxm hom hsn
      obtain ⟨Ao, co, rfl, hlo, hCo⟩ := Kd.R_reads HO.out
      have HCo := Aside0.mk hCo
      clear hCo
      have q1 : (i : Int) < (l2.length : Int) := by omega
      have q2 : (0 : Int) ≤ (i : Int) := by omega
      go_wp2_with fail
      obtain ⟨wo, rfl⟩ : ∃ wo : World, wo = wr := ⟨_, rfl⟩
      go_loopw [9] (fun v9 w' => ∃ (j : Nat), v9 = .int .i64 j ∧ j ≤ o.length ∧ Aside0 (∀ y ∈ o.drop j, ltR k l0 a1 x y = true) ∧ Aside0 (Below wo.heap.size wo w')) (fun v9 _ => (intOf v9).toNat)
      case atStart => exact ⟨o.length, rfl, Nat.le_refl _, ⟨by simp⟩, ⟨Below.refl _ _⟩⟩
      case round =>
        obtain ⟨j, rfl, hj, HD, HW⟩ := hrel
        have HBW := Aside0.mk (below_step HB.out HW.out)
        replace hx1 := (HW.out.cell (World.block_lt_of_cell? _ _ hx1)).trans hx1
        replace hx2 := (HW.out.cell (World.block_lt_of_cell? _ _ hx2)).trans hx2
        have HO := Aside0.mk (Kd.R_below HO.out HW.out)
        have HCo := Aside0.mk (Kd.C_below HCo.out HW.out)
        rcases j with _ | j
        · have hq' : decide ((0 : Int) > 0) = false := rfl
          go_wp2_with fail
          go_quiet (fail)
          go_wp2_with fail
          have e := insR_at (lt := ltR k l0 a1) (x := x) (o := o) 0 (by omega) HD.out (by simp)
          rw [List.drop_zero] at e
          have HE := Aside0.mk e
          clear e
          obtain ⟨W, hW⟩ : ∃ W : World, wr.drewN nq = W := ⟨_, rfl⟩
          rw [hW]
          have HOW := Aside0.mk (show (kF w P2_).R 32 W w.heap.size (fun _ => True) (.slice Ao o.length co) o by rw [← hW]; exact Kd.R_drewN HO.out nq)
          have HCW := Aside0.mk (show (kF w P2_).C W Ao o.length o from (Kd.R_reads' HOW.out).2.2)
          have HBX := Aside0.mk (show Below w.heap.size w W by rw [← hW]; exact pw_below_drewN HBW.out nq)
          have hy1W : W.cell? (ad.add (i * 2)) = some (.int .i64 x.f0) := by rw [← hW]; exact hx1
          have hy2W : W.cell? ⟨(ad.add (i * 2)).block, (ad.add (i * 2)).off + 1, none⟩ = some (.slice At x.f1.length ct) := by rw [← hW]; exact hx2
          clear hW hx1 hx2 HO HCo
          obtain ⟨i0, hi0, hz0, hz1, hz2⟩ := info_parts info32
          have htk := takeS (P := Try.prog) 26 32 Try.underlying26 hi0 Ao o.length co (0) (by omega) hlo
          have HTK := Aside0.mk (show (kF w P2_).C W Ao (0) (o.take (0)) by have := Kd.C_take (m := 0) HCW.out (by omega); rwa [List.length_take, Nat.min_eq_left (by omega)] at this)
          have HDR := Aside0.mk (show (kF w P2_).C W Ao o.length o from HCW.out)
          clear hz0 hz1 hz2
          have hlW1 := World.block_lt_of_cell? W _ hy1W
          have hlW2 := World.block_lt_of_cell? W _ hy2W
          have q7 : (((0 : Nat) : Int)) ≤ (o.length : Int) := by omega
          go_wp2_with fail
          go_region_law (first
            | ((with_reducible refine gate_step (d := 41) rfl ?_)
               refine Kd.R_append_rows_step (kF w P2_) (Rr := fun x cs => Kd.FK k32 w P2_ x cs) (w0 := W) W.heap.size (by rfl) (.tmp 37) (.tmp 40) 26 32 (.agg #[.int .i64 0, .slice none 0 0]) 32 (by rfl) Try.underlying26 info32 rfl (Nat.zero_lt_succ 1) (by decide) (.slice none 0 0) [] (o.take (0)) Ao (0) co (fun _ => True) (fun _ => False) (by first | (go_simp; done) | (go_simp; rfl)) (by first | (go_simp; done) | (go_simp; rfl)) (Kd.R_nil _ _ _ _ _)
                (by show (kF w P2_).C _ _ _ _; repeat (first | exact HTK.out | apply Kd.C_alloc | apply Kd.C_drew)) (fun _ _ h => h) (fun _ h => h.elim) (fun _ _ => trivial) (by repeat (first | exact Below.refl _ _ | apply below_alloc | apply below_drew)) (by simp) (by simp <;> omega) ?_
               intro v1 w1 HO1' HB1' hg1' hat1'
               have HO1 := Aside0.mk HO1'
               have HB1 := Aside0.mk HB1'
               have HG1 := Aside0.mk (below_of_grown_none hg1')
               have hy1W1 := (HB1.out.cell hlW1).trans hy1W
               have hy2W1 := (HB1.out.cell (World.block_lt_of_cell? W _ hy2W)).trans hy2W
               clear HO1' HB1' hg1' hat1')
            | ((with_reducible refine gate_step (d := 47) rfl ?_)
               refine Kd.R_append_rows_step (kF w P2_) (Rr := fun x cs => Kd.FK k32 w P2_ x cs) (w0 := W) W.heap.size (by rfl) (.tmp 41) (.tmp 46) 26 32 (.agg #[.int .i64 0, .slice none 0 0]) 32 (by rfl) Try.underlying26 info32 rfl (Nat.zero_lt_succ 1) (by decide) v1 ([] ++ o.take (0)) [x] (some ⟨_, 0, none⟩) 1 1 (fun _ => True) (fun _ => False) (by first | (go_simp; done) | (go_simp; rfl)) (by first | (go_simp; done) | (go_simp; rfl)) (by repeat (first | exact HO1.out | apply Kd.R_alloc | apply Kd.R_drew))
                (by show (kF w P2_).C _ _ _ _; repeat (first | exact C_box32 _ HX.out.1 | exact Kd.C_below (by repeat (first | exact C_box32 _ HX.out.1 | apply Kd.C_drew)) HG1.out | apply Kd.C_drew)) (fun _ _ h => h) (fun _ h => h.elim) (fun _ _ => trivial) (by repeat (first | exact HB1.out | apply below_alloc | apply below_drew)) (by have := HB1.out.size; simp <;> omega) (by simp <;> omega) ?_
               intro v2 w2 HO2' HB2' hg2' hat2'
               have HO2 := Aside0.mk HO2'
               have HB2 := Aside0.mk HB2'
               have hy1W2 := (HB2.out.cell hlW1).trans hy1W
               have hy2W2 := (HB2.out.cell (World.block_lt_of_cell? W _ hy2W)).trans hy2W
               clear HO2' HB2' hg2' hat2')
            | ((with_reducible refine gate_step (d := 51) rfl ?_)
               refine Kd.R_append_rows_step (kF w P2_) (Rr := fun x cs => Kd.FK k32 w P2_ x cs) (w0 := W) W.heap.size (by rfl) (.tmp 47) (.tmp 50) 26 32 (.agg #[.int .i64 0, .slice none 0 0]) 32 (by rfl) Try.underlying26 info32 rfl (Nat.zero_lt_succ 1) (by decide) v2 ([] ++ o.take (0) ++ [x]) o Ao o.length co (fun _ => True) (fun _ => False) (by first | (go_simp; done) | (go_simp; rfl)) (by first | (go_simp; done) | (go_simp; rfl)) (by repeat (first | exact HO2.out | apply Kd.R_alloc | apply Kd.R_drew))
                (by show (kF w P2_).C _ _ _ _; repeat (first | exact Kd.C_below HDR.out HB2.out | apply Kd.C_alloc | apply Kd.C_drew)) (fun _ _ h => h) (fun _ h => h.elim) (fun _ _ => trivial) (by repeat (first | exact HB2.out | apply below_alloc | apply below_drew)) (by have := HB2.out.size; simp <;> omega) (by simp <;> omega) ?_
               intro v3 w3 HO3' HB3' hg3' hat3'
               have HO3 := Aside0.mk HO3'
               have HB3 := Aside0.mk HB3'
               clear HO3' HB3' hg3' hat3'))
          all_goals
            go_wp2_with fail
            go_roundw
            case rel => exact ⟨i + 1, by go_num, by omega, ⟨by
              rw [HM.out.2.2, HE.out]
              have h3 := Kd.R_lower HO3.out HBX.out.size
              rw [List.nil_append, List.append_assoc, List.singleton_append] at h3
              repeat (first | exact h3 | apply Kd.R_alloc | apply Kd.R_drewN | apply Kd.R_drew)⟩, ⟨by
              have h4 := below_then HBX.out HBX.out.size HB3.out
              repeat (first | exact h4 | apply below_alloc | apply pw_below_drewN | apply below_drew)⟩⟩
            case measure => simp [intOf]; omega
        · have hjo : j < o.length := by omega
          obtain ⟨t, ht⟩ := Option.isSome_iff_exists.1 (HA.out x HM.out.1 o[j] (HM.out.2.1 _ (List.getElem_mem _)))
          have hlt' : ltR k l0 a1 x o[j] = t := by simp only [ltR, ht]
          have hA : ∃ ado, Ao = some ado := by
            obtain ⟨ado, h, _⟩ := HCo.out.2.2 (by omega)
            exact ⟨ado, h⟩
          obtain ⟨ado, rfl⟩ := hA
          obtain ⟨g, rfl⟩ := Kd.R_head HO.out
          obtain ⟨Ay, cy, hKy, hly, hCy, hy1, hy2, _, _⟩ := elemR HO.out j (List.getElem?_eq_getElem hjo)
          have HT := Aside0.mk ht
          have HL := Aside0.mk hlt'
          have HY := Aside0.mk (And.intro hly hCy)
          clear hKy hly hCy ht hlt'
          have q3 : decide (((j + 1 : Nat) : Int) > 0) = true := decide_eq_true (by omega)
          have r3 : decide ((j : Int) + 1 > 0) = true := decide_eq_true (by omega)
          have r4 : (j : Int) < (o.length : Int) := by omega
          have hm : l2.length ≤ 9223372036854775807 := by omega
          have r6 : IntKind.i64.wrap (j : Int) = (j : Int) := by rw [i64_w]; exact w64 (by omega) (by omega)
          have bx1 := BelowOf.cell hx1
          have bx2 := BelowOf.cell hx2
          have by1 := BelowOf.cell hy1
          have by2 := BelowOf.cell hy2
          go_wp2_with fail
          refine wp_region_below (by kernel_rfl) (by kernel_rfl) ?_
          repeat (quiet_step (first
            | (refine below_of (intarsiaref26_Less.calls k _ _ l0 a1 _ _ _ _ _ _ _ _ t _ ?s1 ?s2 ?s3 ?s4 ?s5 ?s6 HT.out)
               (case s1 => exact Kd.C_below HR0.out (below_step HBW.out (BelowOf.h _)))
               (case s2 => exact hc0)
               (case s3 => exact Kd.C_below HX.out.2.2 (below_step HBW.out (BelowOf.h _)))
               (case s4 => exact HX.out.2.1)
               (case s5 => exact Kd.C_below HY.out.2 (below_step HBW.out (BelowOf.h _)))
               (case s6 => exact HY.out.1))))
          refine wpQuiet_nil ?_
          intro _ hw'
          obtain ⟨pq, hw''⟩ := hw'
          subst hw''
          clear bx1 bx2 by1 by2
          cases t with
          | true =>
            go_wp2_with fail
            go_roundw
            case rel =>
              refine ⟨j, by first | rfl | go_num, by omega, ⟨?_⟩, ⟨below_step HW.out pq.h⟩⟩
              intro y hy
              rw [List.drop_eq_getElem_cons hjo] at hy
              rcases List.mem_cons.1 hy with rfl | hy
              · exact HL.out
              · exact HD.out y hy
            case measure => simp [intOf]; try omega
          | false =>
            have e := insR_at (lt := ltR k l0 a1) (x := x) (o := o) (j + 1) (by omega) HD.out (by
              intro y hy
              have e1 : o.take (j + 1) = o.take j ++ [o[j]] := List.take_succ_eq_append_getElem hjo
              rw [e1, List.getLast?_append] at hy
              simp at hy
              subst hy
              exact HL.out)
            have HE := Aside0.mk e
            clear e
            go_wp2_with fail
            obtain ⟨W, hW⟩ : ∃ W : World, pq.v = W := ⟨_, rfl⟩
            rw [hW]
            have HOW := Aside0.mk (show (kF w P2_).R 32 W w.heap.size (fun _ => True) (.slice (some ⟨g, 0, none⟩) o.length co) o by rw [← hW]; exact Kd.R_below HO.out pq.h)
            have HCW := Aside0.mk (show (kF w P2_).C W (some ⟨g, 0, none⟩) o.length o from (Kd.R_reads' HOW.out).2.2)
            have HBX := Aside0.mk (show Below w.heap.size w W by rw [← hW]; exact below_step HBW.out pq.h)
            have hy1W : W.cell? (ad.add (i * 2)) = some (.int .i64 x.f0) := by rw [← hW]; exact BelowOf.cell hx1 pq
            have hy2W : W.cell? ⟨(ad.add (i * 2)).block, (ad.add (i * 2)).off + 1, none⟩ = some (.slice At x.f1.length ct) := by rw [← hW]; exact BelowOf.cell hx2 pq
            clear hW hx1 hx2 HO HCo
            obtain ⟨i0, hi0, hz0, hz1, hz2⟩ := info_parts info32
            have htk := takeS (P := Try.prog) 26 32 Try.underlying26 hi0 (some ⟨g, 0, none⟩) o.length co (j + 1) (by omega) hlo
            have hct := cutS (P := Try.prog) 26 32 Try.underlying26 hi0 (some ⟨g, 0, none⟩) o.length co (j + 1) (by omega)
            rw [hz1] at hct
            rw [show (((j + 1 : Nat)) : Int) = (j : Int) + 1 from by omega] at hct htk
            have HTK := Aside0.mk (show (kF w P2_).C W (some ⟨g, 0, none⟩) (j + 1) (o.take (j + 1)) by have := Kd.C_take (m := j + 1) HCW.out (by omega); rwa [List.length_take, Nat.min_eq_left (by omega)] at this)
            have hdr := Kd.C_drop (m := j + 1) HCW.out (by omega) hlo
            rw [List.length_drop] at hdr
            have hdr : (kF w P2_).C W (if co = j + 1 then (some ⟨g, 0, none⟩) else Option.map (fun y : Addr => y.add ((j + 1) * 2)) (some ⟨g, 0, none⟩)) (o.length - (j + 1)) (o.drop (j + 1)) := hdr
            generalize (if co = j + 1 then (some ⟨g, 0, none⟩) else Option.map (fun y : Addr => y.add ((j + 1) * 2)) (some ⟨g, 0, none⟩)) = A2' at hct hdr
            have HDR := Aside0.mk hdr
            clear hdr hz0 hz1 hz2
            have hlW1 := World.block_lt_of_cell? W _ hy1W
            have hlW2 := World.block_lt_of_cell? W _ hy2W
            have q7 : (j : Int) + 1 ≤ (o.length : Int) := by omega
            clear r3 q3 r4 r6
            go_wp2_with fail
            go_region_law (first
              | ((with_reducible refine gate_step (d := 41) rfl ?_)
                 refine Kd.R_append_rows_step (kF w P2_) (Rr := fun x cs => Kd.FK k32 w P2_ x cs) (w0 := W) W.heap.size (by rfl) (.tmp 37) (.tmp 40) 26 32 (.agg #[.int .i64 0, .slice none 0 0]) 32 (by rfl) Try.underlying26 info32 rfl (Nat.zero_lt_succ 1) (by decide) (.slice none 0 0) [] (o.take (j + 1)) (some ⟨g, 0, none⟩) (j + 1) co (fun _ => True) (fun _ => False) (by first | (go_simp; done) | (go_simp; rfl)) (by first | (go_simp; done) | (go_simp; rfl)) (Kd.R_nil _ _ _ _ _)
                  (by show (kF w P2_).C _ _ _ _; repeat (first | exact HTK.out | apply Kd.C_alloc | apply Kd.C_drew)) (fun _ _ h => h) (fun _ h => h.elim) (fun _ _ => trivial) (by repeat (first | exact Below.refl _ _ | apply below_alloc | apply below_drew)) (by simp) (by simp <;> omega) ?_
                 intro v1 w1 HO1' HB1' hg1' hat1'
                 have HO1 := Aside0.mk HO1'
                 have HB1 := Aside0.mk HB1'
                 have HG1 := Aside0.mk (below_of_grown_none hg1')
                 have hy1W1 := (HB1.out.cell hlW1).trans hy1W
                 have hy2W1 := (HB1.out.cell (World.block_lt_of_cell? W _ hy2W)).trans hy2W
                 clear HO1' HB1' hg1' hat1')
              | ((with_reducible refine gate_step (d := 47) rfl ?_)
                 refine Kd.R_append_rows_step (kF w P2_) (Rr := fun x cs => Kd.FK k32 w P2_ x cs) (w0 := W) W.heap.size (by rfl) (.tmp 41) (.tmp 46) 26 32 (.agg #[.int .i64 0, .slice none 0 0]) 32 (by rfl) Try.underlying26 info32 rfl (Nat.zero_lt_succ 1) (by decide) v1 ([] ++ o.take (j + 1)) [x] (some ⟨_, 0, none⟩) 1 1 (fun _ => True) (fun _ => False) (by first | (go_simp; done) | (go_simp; rfl)) (by first | (go_simp; done) | (go_simp; rfl)) (by repeat (first | exact HO1.out | apply Kd.R_alloc | apply Kd.R_drew))
                  (by show (kF w P2_).C _ _ _ _; repeat (first | exact C_box32 _ HX.out.1 | exact Kd.C_below (by repeat (first | exact C_box32 _ HX.out.1 | apply Kd.C_drew)) HG1.out | apply Kd.C_drew)) (fun _ _ h => h) (fun _ h => h.elim) (fun _ _ => trivial) (by repeat (first | exact HB1.out | apply below_alloc | apply below_drew)) (by have := HB1.out.size; simp <;> omega) (by simp <;> omega) ?_
                 intro v2 w2 HO2' HB2' hg2' hat2'
                 have HO2 := Aside0.mk HO2'
                 have HB2 := Aside0.mk HB2'
                 have hy1W2 := (HB2.out.cell hlW1).trans hy1W
                 have hy2W2 := (HB2.out.cell (World.block_lt_of_cell? W _ hy2W)).trans hy2W
                 clear HO2' HB2' hg2' hat2')
              | ((with_reducible refine gate_step (d := 51) rfl ?_)
                 refine Kd.R_append_rows_step (kF w P2_) (Rr := fun x cs => Kd.FK k32 w P2_ x cs) (w0 := W) W.heap.size (by rfl) (.tmp 47) (.tmp 50) 26 32 (.agg #[.int .i64 0, .slice none 0 0]) 32 (by rfl) Try.underlying26 info32 rfl (Nat.zero_lt_succ 1) (by decide) v2 ([] ++ o.take (j + 1) ++ [x]) (o.drop (j + 1)) A2' (o.length - (j + 1)) (co - (j + 1)) (fun _ => True) (fun _ => False) (by first | (go_simp; done) | (go_simp; rfl)) (by first | (go_simp; done) | (go_simp; rfl)) (by repeat (first | exact HO2.out | apply Kd.R_alloc | apply Kd.R_drew))
                  (by show (kF w P2_).C _ _ _ _; repeat (first | exact Kd.C_below HDR.out HB2.out | apply Kd.C_alloc | apply Kd.C_drew)) (fun _ _ h => h) (fun _ h => h.elim) (fun _ _ => trivial) (by repeat (first | exact HB2.out | apply below_alloc | apply below_drew)) (by have := HB2.out.size; simp <;> omega) (by simp <;> omega) ?_
                 intro v3 w3 HO3' HB3' hg3' hat3'
                 have HO3 := Aside0.mk HO3'
                 have HB3 := Aside0.mk HB3'
                 clear HO3' HB3' hg3' hat3'))
            all_goals
              go_wp2_with fail
              go_roundw
              case rel => exact ⟨i + 1, by go_num, by omega, ⟨by
                rw [HM.out.2.2, HE.out]
                have h3 := Kd.R_lower HO3.out HBX.out.size
                rw [List.nil_append, List.append_assoc, List.singleton_append] at h3
                repeat (first | exact h3 | apply Kd.R_alloc | apply Kd.R_drewN | apply Kd.R_drew)⟩, ⟨by
                have h4 := below_then HBX.out HBX.out.size HB3.out
                repeat (first | exact h4 | apply below_alloc | apply pw_below_drewN | apply below_drew)⟩⟩
              case measure => simp [intOf]; omega
    · have : i = l2.length := by omega
      subst this
      go_wp2_with fail
      go_ret
      have h1 := HO.out
      rw [List.take_length] at h1
      exact ⟨_, rfl, kF_V h1 HB.out (Nat.le_refl _), HB.out⟩
end Go.Proofs.Ytjkdfjkaeoklmaa.Q
namespace Go.Proofs.Ytjkdfjkaeoklmaa.Q
open Go.RowKit Go.Proofs.YtjkdfjkaeoklmaaW.PrintWords Go.Proofs.YtjkdfjkaeoklmaaW.PrintLast Go.Proofs.YtjkdfjkaeoklmaaW.PrintMore
set_option linter.unusedVariables false
set_option linter.unusedSimpArgs false
/-- The first of those that no later one comes ahead of, as the loop finds it. -/
def bestL (lt : S32 → S32 → Bool) : S32 → Bool → List S38 → S32 × Bool
  | b, s, [] => (b, s)
  | b, s, x :: r => if x.f1 = false ∧ (s = false ∨ lt x.f0 b = true) then bestL lt x.f0 true r else bestL lt b s r
def intarsiaref26_Select.f (k : Nat) (l0 : List S45) (a1 : Int) (l2 : List S38) : Option (Int × List Int × Bool) :=
  if (l2.all fun x => l2.all fun y => (intarsiaref26_Less.f k l0 a1 x.f0.f0 x.f0.f1 y.f0.f0 y.f0.f1).isSome) = true then some ((bestL (ltR k l0 a1) ⟨0, []⟩ false l2).1.f0, (bestL (ltR k l0 a1) ⟨0, []⟩ false l2).1.f1, (bestL (ltR k l0 a1) ⟨0, []⟩ false l2).2) else none
theorem bestL_congr {lt lt' : S32 → S32 → Bool} {L : List S38} (h : ∀ x ∈ L, ∀ y ∈ L, lt x.f0 y.f0 = lt' x.f0 y.f0) : ∀ (r : List S38) (b : S32) (s : Bool), (∀ x ∈ r, x ∈ L) → (s = true → ∃ y ∈ L, y.f0 = b) → bestL lt b s r = bestL lt' b s r
  | [], _, _, _, _ => rfl
  | x :: r, b, s, hr, hb => by
    have hx := hr x (by simp)
    have e : (x.f1 = false ∧ (s = false ∨ lt x.f0 b = true)) ↔ (x.f1 = false ∧ (s = false ∨ lt' x.f0 b = true)) := by
      cases s with
      | false => simp
      | true =>
        obtain ⟨y, hy, rfl⟩ := hb rfl
        rw [h x hx y hy]
    rw [bestL, bestL]
    by_cases hc : x.f1 = false ∧ (s = false ∨ lt' x.f0 b = true)
    · rw [if_pos (e.2 hc), if_pos hc]
      exact bestL_congr h r _ _ (fun y hy => hr y (by simp [hy])) (fun _ => ⟨x, hx, rfl⟩)
    · rw [if_neg (fun h => hc (e.1 h)), if_neg hc]
      exact bestL_congr h r _ _ (fun y hy => hr y (by simp [hy])) hb
theorem intarsiaref26_Select.mono : ∀ a0 a1 a2 k, LeO (intarsiaref26_Select.f k a0 a1 a2) (intarsiaref26_Select.f (k + 1) a0 a1 a2) := by
  intro a0 a1 a2 k r h
  unfold intarsiaref26_Select.f at h ⊢
  split at h
  · rename_i h2
    have h2' : ∀ x ∈ a2, ∀ y ∈ a2, (intarsiaref26_Less.f k a0 a1 x.f0.f0 x.f0.f1 y.f0.f0 y.f0.f1).isSome = true := fun x hx y hy => List.all_eq_true.1 (List.all_eq_true.1 h2 x hx) y hy
    rw [if_pos (List.all_eq_true.2 fun x hx => List.all_eq_true.2 fun y hy => (ltR_mono k a0 a1 x.f0 y.f0 (h2' x hx y hy)).1), ← h]
    rw [bestL_congr (L := a2) (lt := ltR (k + 1) a0 a1) (lt' := ltR k a0 a1) (fun x hx y hy => (ltR_mono k a0 a1 x.f0 y.f0 (h2' x hx y hy)).2) a2 _ _ (fun _ h => h) (by simp)]
  · cases h
theorem elem38r {W : World} {base n c : Nat} {P : Nat → Prop} {A : Option Addr} {l : List S38} (h : Kd.V k38 38 W base P (.slice A n c) l) (i : Nat) (hi : i < l.length) {At : Option Addr} {ct : Nat} (hK : Kd.FK k32 W P l[i].f0 [.int .i64 l[i].f0.f0, .slice At l[i].f0.f1.length ct]) :
    l[i].f0.f1.length ≤ ct ∧ (Kd.int .i64).C W At l[i].f0.f1.length l[i].f0.f1 := by
  obtain ⟨A1, c1, e, h1, h2⟩ := k32_open (Kd.FK_now hK)
  injection e with _ e
  injection e with e _
  injection e with e1 e2 e3
  subst e1; subst e3
  exact ⟨h1, h2⟩

set_option maxHeartbeats 4000000 in
set_option maxRecDepth 100000 in
theorem intarsiaref26_Select.calls (k : Nat) (A0 : Option Addr) (c0 : Nat) (l0 : List (S45)) (a1 : Int) (P2_ : Nat → Prop) (A2 : Option Addr) (c2 : Nat) (l2 : List (S38)) (r1 : Int) (r2 : List Int) (r3 : Bool) (w : World) (hr0 : Kd.C k45 w A0 l0.length l0) (hc0 : l0.length ≤ c0) (hs2 : Kd.V k38 38 w w.heap.size (fun k_ => P2_ k_) (.slice A2 l2.length c2) l2) (h : intarsiaref26_Select.f k l0 a1 l2 = some (r1, r2, r3)) :
    Calls Try.prog 20 #[.slice A0 l0.length c0, .int .u8 a1, .slice A2 l2.length c2] w fun e w' => ∃ v1_ : Value, e = .returned (.tuple #[.agg #[.int .i64 r1, v1_], .bool r3]) ∧ Kd.V (Kd.int .i64) 3 w' w.heap.size (fun k_ => (P2_ k_ ∨ w.heap.size ≤ k_)) v1_ r2 ∧ Below w.heap.size w w' := by
  unfold intarsiaref26_Select.f at h
  split at h
  case isFalse => cases h
  rename_i h2
  obtain ⟨p, hp⟩ : ∃ p, p = bestL (ltR k l0 a1) ⟨0, []⟩ false l2 := ⟨_, rfl⟩
  rw [← hp] at h
  obtain ⟨rfl, h3⟩ := Prod.mk.inj (Option.some.inj h)
  obtain ⟨rfl, rfl⟩ := Prod.mk.inj h3
  have HA := Aside0.mk (show ∀ x ∈ l2, ∀ y ∈ l2, (intarsiaref26_Less.f k l0 a1 x.f0.f0 x.f0.f1 y.f0.f0 y.f0.f1).isSome = true from fun x hx y hy => List.all_eq_true.1 (List.all_eq_true.1 h2 x hx) y hy)
  have HR0 := Aside0.mk hr0
  have HS := Aside0.mk hs2
  have HP := Aside0.mk hp
  have hm : l2.length ≤ 9223372036854775807 := Kd.F_max (Kd.V_F hs2)
  clear h h2 h3 hr0 hs2 hp
  go_enter Try.func20, Try.ntmps20
  go_wp2_with (first
    | ((with_reducible refine gate_dst (N := 6) rfl ?_)
       refine box_event ?hg (N := 6) ?hd (cs := #[.int .i64 0, .slice none 0 0]) (t := 32) ?hr ?_
       (case hd => rfl)
       (case hg => rfl)
       (case hr => first | (go_simp; done) | (go_simp; rfl))
       intro g6 hg6 w6 hbox6 hb6
       have BK6 := Aside0.mk (And.intro hg6 (And.intro hbox6 hb6))
       clear hg6 hbox6 hb6)
    | ((with_reducible refine gate_dst (N := 8) rfl ?_)
       refine box_event ?hg (N := 8) ?hd (cs := #[.int .i64 0, .slice none 0 0]) (t := 32) ?hr ?_
       (case hd => rfl)
       (case hg => rfl)
       (case hr => first | (go_simp; done) | (go_simp; rfl))
       intro g8 hg8 w8 hbox8 hb8
       have hcz_0 : w8.cell? ⟨g8, 0, none⟩ = some (.int .i64 0) := (blk_cell hbox8 0).trans rfl
       have hcz_1 : w8.cell? ⟨g8, 1, none⟩ = some (.slice none 0 0) := (blk_cell hbox8 1).trans rfl
       have hfz_0 := blk_frozen hbox8 0
       have hfz_1 := blk_frozen hbox8 1
       have BK8 := Aside0.mk (And.intro hg8 (And.intro hbox8 hb8))
       clear hg8 hbox8 hb8))
  have hw6 : w.heap.size ≤ g6 := Nat.le_of_eq BK6.out.1.symm
  have hg68 : g6 < g8 := by
    have h1 := BK8.out.1
    have h2 := blk_lt BK6.out.2.1
    omega
  have hgn1 : g6 ≠ g8 := by omega
  have hw8 : w.heap.size ≤ g8 := by omega
  have HB8 := Aside0.mk (show Below w.heap.size w w8 from below_step BK6.out.2.2 BK8.out.2.2)
  clear hcz_0 hcz_1 hfz_0 hfz_1
  go_loopw [9, 10] (fun v9 v10 wr => ∃ (i : Nat) (s : Bool) (b : S32) (Ab : Option Addr) (cb : Nat), v9 = .bool s ∧ v10 = .int .i64 i ∧ i ≤ l2.length ∧ Aside0 (wr.heap[g8]? = some (.cells #[.int .i64 b.f0, .slice Ab b.f1.length cb] 32 (0, 0))) ∧ Aside0 (Kd.FK k32 w P2_ b [.int .i64 b.f0, .slice Ab b.f1.length cb]) ∧ Aside0 (s = true → ∃ y ∈ l2, y.f0 = b) ∧ Aside0 (bestL (ltR k l0 a1) b s (l2.drop i) = p) ∧ Aside0 (Below w.heap.size w wr) ∧ Aside0 (wr.heap[g6]? = some (.cells #[.int .i64 0, .slice none 0 0] 32 (0, 0)))) (fun _ v10 _ => l2.length - (intOf v10).toNat)
  case atStart =>
    refine ⟨0, false, ⟨0, []⟩, none, 0, rfl, rfl, Nat.zero_le _, ⟨?_⟩, ⟨?_⟩, ⟨by simp⟩, ⟨HP.out.symm⟩, ⟨?_⟩, ⟨?_⟩⟩
    · exact blk_put (blk_put BK8.out.2.1 0 _ rfl) 1 _ rfl
    · exact k32_mkF w _ _ (Nat.le_refl _) (Kd.F_nil _ _ _)
    · exact below_set (below_set HB8.out hw8) hw8
    · exact blk_far (blk_far (blk_below BK6.out.2.1 BK8.out.2.2) hgn1 _) hgn1 _
  case round =>
    obtain ⟨i, s, b, Ab, cb, rfl, rfl, hi, HG, HK, HS2, HE, HB, HG6⟩ := hrel
    by_cases hlt : i < l2.length
    · obtain ⟨ad, At, ct, rfl, hFK, hx0, hx1, hx2⟩ := elem38 HS.out i hlt
      have HFK := Aside0.mk hFK
      clear hFK
      have q1 : (i : Int) < (l2.length : Int) := by omega
      have q2 : (0 : Int) ≤ (i : Int) := by omega
      replace hx0 := (HB.out.cell (World.block_lt_of_cell? _ _ hx0)).trans hx0
      replace hx1 := (HB.out.cell (World.block_lt_of_cell? _ _ hx1)).trans hx1
      replace hx2 := (HB.out.cell (World.block_lt_of_cell? _ _ hx2)).trans hx2
      cases hf : l2[i].f1 with
      | true =>
        rw [hf] at hx2
        go_wp2_with fail
        go_quiet (fail)
        go_wp2_with fail
        go_roundw
        case rel =>
          refine ⟨i + 1, s, b, Ab, cb, rfl, by first | rfl | go_num, by omega, ⟨blk_below HG.out (pw_below_drewN (Below.refl wr.heap.size wr) nq)⟩, HK, HS2, ⟨?_⟩, ⟨below_step HB.out (pw_below_drewN (Below.refl wr.heap.size wr) nq)⟩, ⟨blk_below HG6.out (pw_below_drewN (Below.refl wr.heap.size wr) nq)⟩⟩
          rw [← HE.out, List.drop_eq_getElem_cons hlt, bestL, if_neg (fun h => by rw [hf] at h; cases h.1)]
        case measure => simp [intOf]; omega
      | false =>
        rw [hf] at hx2
        cases s with
        | false =>
          go_wp2_with fail
          go_quiet (fail)
          have hk8 := blk_drewN HG.out nq
          have hm0 : (wr.drewN nq).cell? ⟨g8, 0, none⟩ = some (.int .i64 b.f0) := (blk_cell hk8 0).trans rfl
          have hm1 : (wr.drewN nq).cell? ⟨g8, 1, none⟩ = some (.slice Ab b.f1.length cb) := (blk_cell hk8 1).trans rfl
          have hf0 := blk_frozen hk8 0
          have hf1 := blk_frozen hk8 1
          have HK8 := Aside0.mk hk8
          clear hk8
          obtain ⟨W, hW⟩ : ∃ W : World, wr.drewN nq = W := ⟨_, rfl⟩
          have HBX := Aside0.mk (show Below wr.heap.size wr W by rw [← hW]; exact pw_below_drewN (Below.refl wr.heap.size wr) nq)
          replace hx0 := (HBX.out.cell (World.block_lt_of_cell? _ _ hx0)).trans hx0
          replace hx1 := (HBX.out.cell (World.block_lt_of_cell? _ _ hx1)).trans hx1
          rw [hW] at hm0 hm1 hf0 hf1 ⊢
          clear hW
          go_wp2_with fail
          go_roundw
          case rel =>
            refine ⟨i + 1, true, l2[i].f0, At, ct, rfl, by first | rfl | go_num, by omega, ⟨?_⟩, HFK, ⟨fun _ => ⟨l2[i], List.getElem_mem _, rfl⟩⟩, ⟨?_⟩, ⟨?_⟩, ⟨?_⟩⟩
            · exact blk_put (blk_put (blk_below HG.out HBX.out) 0 _ rfl) 1 _ rfl
            · rw [← HE.out, List.drop_eq_getElem_cons hlt, bestL, if_pos ⟨hf, .inl rfl⟩]
            · exact below_set (below_set (below_step HB.out HBX.out) hw8) hw8
            · exact blk_far (blk_far (blk_below HG6.out HBX.out) hgn1 _) hgn1 _
          case measure => simp [intOf]; omega
        | true =>
          obtain ⟨y0, hy0, rfl⟩ := HS2.out rfl
          obtain ⟨t, ht⟩ := Option.isSome_iff_exists.1 (HA.out l2[i] (List.getElem_mem _) y0 hy0)
          have hlt' : ltR k l0 a1 l2[i].f0 y0.f0 = t := by simp only [ltR, ht]
          have HT := Aside0.mk ht
          have HL := Aside0.mk hlt'
          clear ht hlt'
          have HX := Aside0.mk (elem38r HS.out i hlt HFK.out)
          have HY := Aside0.mk (show y0.f0.f1.length ≤ cb ∧ (Kd.int .i64).C w Ab y0.f0.f1.length y0.f0.f1 by
            obtain ⟨A1, c1, e, h1, h2⟩ := k32_open (Kd.FK_now HK.out)
            injection e with _ e
            injection e with e _
            injection e with e1 e2 e3
            subst e1; subst e3
            exact ⟨h1, h2⟩)
          have hm0 : wr.cell? ⟨g8, 0, none⟩ = some (.int .i64 y0.f0.f0) := (blk_cell HG.out 0).trans rfl
          have hm1 : wr.cell? ⟨g8, 1, none⟩ = some (.slice Ab y0.f0.f1.length cb) := (blk_cell HG.out 1).trans rfl
          have bx0 := BelowOf.cell hx0
          have bx1 := BelowOf.cell hx1
          have bx2 := BelowOf.cell hx2
          have by0 := BelowOf.cell hm0
          have by1 := BelowOf.cell hm1
          go_wp2_with fail
          refine wp_region_below (by kernel_rfl) (by kernel_rfl) ?_
          repeat (quiet_step (first
            | (refine below_of (intarsiaref26_Less.calls k _ _ l0 a1 _ _ _ _ _ _ _ _ t _ ?s1 ?s2 ?s3 ?s4 ?s5 ?s6 HT.out)
               (case s1 => exact Kd.C_below HR0.out (below_step HB.out (BelowOf.h _)))
               (case s2 => exact hc0)
               (case s3 => exact Kd.C_below HX.out.2 (below_step HB.out (BelowOf.h _)))
               (case s4 => exact HX.out.1)
               (case s5 => exact Kd.C_below HY.out.2 (below_step HB.out (BelowOf.h _)))
               (case s6 => exact HY.out.1))))
          refine wpQuiet_nil ?_
          intro _ hw'
          obtain ⟨pq, hw''⟩ := hw'
          subst hw''
          clear bx0 bx1 bx2 by0 by1
          have HBX := Aside0.mk (show Below wr.heap.size wr pq.v from pq.h)
          have hk8 := blk_below HG.out HBX.out
          replace hm0 := BelowOf.cell hm0 pq
          replace hm1 := BelowOf.cell hm1 pq
          have hf0 := blk_frozen hk8 0
          have hf1 := blk_frozen hk8 1
          replace hx0 := BelowOf.cell hx0 pq
          replace hx1 := BelowOf.cell hx1 pq
          clear hk8
          cases t with
          | true =>
            go_wp2_with fail
            go_roundw
            case rel =>
              refine ⟨i + 1, true, l2[i].f0, At, ct, rfl, by first | rfl | go_num, by omega, ⟨?_⟩, HFK, ⟨fun _ => ⟨l2[i], List.getElem_mem _, rfl⟩⟩, ⟨?_⟩, ⟨?_⟩, ⟨?_⟩⟩
              · exact blk_put (blk_put (blk_below HG.out HBX.out) 0 _ rfl) 1 _ rfl
              · rw [← HE.out, List.drop_eq_getElem_cons hlt, bestL, if_pos ⟨hf, .inr HL.out⟩]
              · exact below_set (below_set (below_step HB.out HBX.out) hw8) hw8
              · exact blk_far (blk_far (blk_below HG6.out HBX.out) hgn1 _) hgn1 _
            case measure => simp [intOf]; omega
          | false =>
            go_wp2_with fail
            go_roundw
            case rel =>
              refine ⟨i + 1, true, y0.f0, Ab, cb, rfl, by first | rfl | go_num, by omega, ⟨blk_below HG.out HBX.out⟩, HK, ⟨fun _ => ⟨y0, hy0, rfl⟩⟩, ⟨?_⟩, ⟨below_step HB.out HBX.out⟩, ⟨blk_below HG6.out HBX.out⟩⟩
              rw [← HE.out, List.drop_eq_getElem_cons hlt, bestL, if_neg (fun h => by rcases h.2 with h | h; cases h; rw [HL.out] at h; cases h)]
            case measure => simp [intOf]; omega
    · obtain rfl : i = l2.length := by omega
      have hm0 : wr.cell? ⟨g8, 0, none⟩ = some (.int .i64 b.f0) := (blk_cell HG.out 0).trans rfl
      have hm1 : wr.cell? ⟨g8, 1, none⟩ = some (.slice Ab b.f1.length cb) := (blk_cell HG.out 1).trans rfl
      have hn0 : wr.cell? ⟨g6, 0, none⟩ = some (.int .i64 0) := (blk_cell HG6.out 0).trans rfl
      have hn1 : wr.cell? ⟨g6, 1, none⟩ = some (.slice none 0 0) := (blk_cell HG6.out 1).trans rfl
      have hf0 := blk_frozen HG6.out 0
      have hf1 := blk_frozen HG6.out 1
      go_wp2_with fail
      have e := HE.out
      rw [List.drop_length, bestL] at e
      subst e
      refine bodyPost_ret (results_ct rfl _ _ g6 32 #[.int .i64 b.f0, .slice Ab b.f1.length cb] (0, 0) _ rfl (blk_put (blk_put HG6.out 0 _ rfl) 1 _ rfl) Try.underlying32 rfl (by kernel_rfl)) rfl ?_
      have hB := below_set (below_set HB.out hw6 (j := 0) (v := .int .i64 b.f0)) hw6 (j := 1) (v := .slice Ab b.f1.length cb)
      obtain ⟨A1, c1, e, h1, h2⟩ := k32_openF HK.out
      injection e with _ e
      injection e with e _
      injection e with e1 e2 e3
      subst e1; subst e3
      exact ⟨_, rfl, Kd.V_mk h1 (Kd.F_mono (Kd.F_below h2 hB) (fun _ h => .inl h)), hB⟩
end Go.Proofs.Ytjkdfjkaeoklmaa.Q
namespace Go.Proofs.Ytjkdfjkaeoklmaa.Q
open Go.RowKit Go.Proofs.YtjkdfjkaeoklmaaW.PrintWords
set_option linter.unusedVariables false
set_option linter.unusedSimpArgs false
section
variable {lt : S32 → S32 → Bool}
/-- None comes ahead of one before it. -/
def Sorted (lt : S32 → S32 → Bool) (l : List S32) : Prop := l.Pairwise (fun a b => lt b a = false)
variable (irr : ∀ x, lt x x = false) (tri : ∀ x y, x ≠ y → lt x y = !lt y x) (tr : ∀ x y z, lt x y = true → lt y z = true → lt x z = true)
end
/-- The least one, told on. -/
def minT (lt : S32 → S32 → Bool) : S32 → List S32 → S32
  | m, [] => m
  | m, x :: r => if lt x m = true then minT lt x r else minT lt m r
section
variable {lt : S32 → S32 → Bool} (irr : ∀ x, lt x x = false) (tri : ∀ x y, x ≠ y → lt x y = !lt y x) (tr : ∀ x y z, lt x y = true → lt y z = true → lt x z = true)
end
/-- The entries that were not fired. -/
def unfired (l : List S38) : List S32 := (l.filter fun x => !x.f1).map (·.f0)
end Go.Proofs.Ytjkdfjkaeoklmaa.Q
namespace Go.Proofs.Ytjkdfjkaeoklmaa.Q
open Go.RowKit Go.Proofs.YtjkdfjkaeoklmaaW.PrintWords
set_option linter.unusedVariables false
set_option linter.unusedSimpArgs false
theorem ev_all {α β : Type} {g : α → Nat → Option β} {v : α → β} : ∀ (l : List α), (∀ x ∈ l, Ev (g x) (v x)) → ∃ K, ∀ k, K ≤ k → ∀ x ∈ l, g x k = some (v x)
  | [], _ => ⟨0, fun _ _ _ h => by cases h⟩
  | x :: l, h => by
    obtain ⟨K1, h1⟩ := h x (by simp)
    obtain ⟨K2, h2⟩ := ev_all l (fun y hy => h y (by simp [hy]))
    exact ⟨max K1 K2, fun k hk y hy => by
      rcases List.mem_cons.1 hy with rfl | hy
      · exact h1 k (by omega)
      · exact h2 k (by omega) y hy⟩
theorem ev_pairs {α β : Type} {g : α → α → Nat → Option β} {v : α → α → β} (l : List α) (h : ∀ x ∈ l, ∀ y ∈ l, Ev (g x y) (v x y)) : ∃ K, ∀ k, K ≤ k → ∀ x ∈ l, ∀ y ∈ l, g x y k = some (v x y) := by
  have h1 : ∀ x ∈ l, ∃ K, ∀ k, K ≤ k → ∀ y ∈ l, g x y k = some (v x y) := fun x hx => ev_all l (h x hx)
  have : ∀ l' : List α, (∀ x ∈ l', x ∈ l) → ∃ K, ∀ k, K ≤ k → ∀ x ∈ l', ∀ y ∈ l, g x y k = some (v x y) := by
    intro l'
    induction l' with
    | nil => exact fun _ => ⟨0, fun _ _ _ h => by cases h⟩
    | cons x l' ih =>
      intro hl
      obtain ⟨K1, e1⟩ := h1 x (hl x (by simp))
      obtain ⟨K2, e2⟩ := ih (fun y hy => hl y (by simp [hy]))
      exact ⟨max K1 K2, fun k hk z hz => by
        rcases List.mem_cons.1 hz with rfl | hz
        · exact e1 k (by omega)
        · exact e2 k (by omega) z hz⟩
  exact this l (fun _ h => h)
/-- Tags short enough. -/
def okInsts (l : List S32) : Prop := ∀ x ∈ l, x.f1.length ≤ 12
theorem sort_o_val (l0 : List S45) (h0 : okRules l0) (how : Int) (l : List S32) (hl : okInsts l) (h20 : l.length ≤ 20) : Ev (fun k => order_Sort.f k l0 how l) (sortL (lessP l0 how) l) := by
  obtain ⟨K, hK⟩ := ev_pairs (g := fun x y k => order_orderer_compare.f k l0 how x.f0 x.f1 y.f0 y.f1) (v := fun x y => compareP l0 how x y) l (fun x hx y hy => compare_val l0 h0 how x y (hl x hx) (hl y hy))
  refine ⟨K, fun k hk => ?_⟩
  have h := hK k hk
  simp only [order_Sort.f]
  rw [if_pos ⟨h20, List.all_eq_true.2 fun x hx => List.all_eq_true.2 fun y hy => by rw [h x hx y hy]; rfl⟩]
  congr 1
  exact sortL_congr (fun x hx y hy => by simp only [ltO, lessP, h x hx y hy])
theorem minL_val (l0 : List S45) (h0 : okRules l0) (how : Int) : ∀ (r : List S32) (m : S32), m.f1.length ≤ 12 → okInsts r → Ev (fun k => minL k l0 how m r) (minT (lessP l0 how) m r)
  | [], m, _, _ => Ev.now _
  | x :: r, m, hm, hr => by
    have hx := hr x (by simp)
    have hr' : okInsts r := fun y hy => hr y (by simp [hy])
    refine Ev.congr (f := fun k => (order_orderer_compare.f k l0 how x.f0 x.f1 m.f0 m.f1).bind fun t => if t < 0 then minL k l0 how x r else minL k l0 how m r) (fun k => by rw [minL]) ?_
    refine Ev.bind (compare_val l0 h0 how x m hx hm) ?_
    rw [minT]
    by_cases ht : compareP l0 how x m < 0
    · simp only [lessP, ht, decide_true, if_true]
      exact minL_val l0 h0 how r x hx hr'
    · simp only [lessP, ht, decide_false, if_false]
      exact minL_val l0 h0 how r m hm hr'
/-- What is chosen of some entries. -/
def selP (lt : S32 → S32 → Bool) (l : List S38) : Int × List Int × Bool := match unfired l with | [] => (0, [], false) | m :: r => ((minT lt m r).f0, (minT lt m r).f1, true)
def okEntries (l : List S38) : Prop := ∀ x ∈ l, x.f0.f1.length ≤ 12
theorem okEntries.un {l : List S38} (h : okEntries l) : okInsts (unfired l) := by
  intro x hx
  obtain ⟨y, hy, rfl⟩ := List.mem_map.1 hx
  exact h y (List.mem_filter.1 hy).1
theorem select_o_val (l0 : List S45) (h0 : okRules l0) (how : Int) (l : List S38) (hl : okEntries l) (hb : l.length < 4398046511104) : Ev (fun k => order_Select.f k l0 how l) (selP (lessP l0 how) l) := by
  refine Ev.congr (f := fun k => minOf k l0 how (unfired l)) (fun k => by rw [order_Select.f, if_pos hb]; rfl) ?_
  unfold selP
  have hu := hl.un
  cases hc : unfired l with
  | nil => exact Ev.now _
  | cons m r =>
    rw [hc] at hu
    refine Ev.congr (f := fun k => (minL k l0 how m r).bind fun m => some (m.f0, m.f1, true)) (fun k => by rw [minOf]) ?_
    exact Ev.bind (minL_val l0 h0 how r m (hu m (by simp)) (fun y hy => hu y (by simp [hy]))) (Ev.now _)
end Go.Proofs.Ytjkdfjkaeoklmaa.Q
namespace Go.Proofs.Ytjkdfjkaeoklmaa.Q
open Go.RowKit Go.Proofs.YtjkdfjkaeoklmaaW.PrintWords Go.Proofs.YtjkdfjkaeoklmaaW.PrintLast Go.Proofs.YtjkdfjkaeoklmaaW.PrintMore
set_option linter.unusedVariables false
set_option linter.unusedSimpArgs false
theorem inst23 (a : Int) (A : Option Addr) (n c : Nat) (w : World) : Calls Try.prog 23 #[.int .i64 a, .slice A n c] w fun e w' => e = .returned (.agg #[.int .i64 a, .slice A n c]) ∧ Below w.heap.size w w' := by
  go_enter Try.func23, Try.ntmps23
  go_wp2_with (first
    | ((with_reducible refine gate_dst (N := 4) rfl ?_)
       refine box_event ?hg (N := 4) ?hd (cs := #[.int .i64 0, .slice none 0 0]) (t := 32) ?hr ?_
       (case hd => rfl)
       (case hg => rfl)
       (case hr => first | (go_simp; done) | (go_simp; rfl))
       intro g4 hg4 w4 hbox4 hb4
       have hcz_0 : w4.cell? ⟨g4, 0, none⟩ = some (.int .i64 0) := (blk_cell hbox4 0).trans rfl
       have hcz_1 : w4.cell? ⟨g4, 1, none⟩ = some (.slice none 0 0) := (blk_cell hbox4 1).trans rfl
       have hfz_0 := blk_frozen hbox4 0
       have hfz_1 := blk_frozen hbox4 1
       have BK4 := Aside0.mk (And.intro hg4 (And.intro hbox4 hb4))
       clear hg4 hbox4 hb4))
  refine bodyPost_ret (results_single rfl (.cell g4 32 #[.int .i64 a, .slice A n c] (0, 0) _ rfl (blk_put (blk_put BK4.out.2.1 0 _ rfl) 1 _ rfl) Try.underlying32 rfl (by kernel_rfl) .nil)) rfl ?_
  exact ⟨rfl, below_set (below_set BK4.out.2.2 (Nat.le_of_eq BK4.out.1.symm)) (Nat.le_of_eq BK4.out.1.symm)⟩
end Go.Proofs.Ytjkdfjkaeoklmaa.Q
namespace Go.Proofs.Ytjkdfjkaeoklmaa.Q
open Go.RowKit Go.Proofs.YtjkdfjkaeoklmaaW.PrintWords
set_option linter.unusedVariables false
set_option linter.unusedSimpArgs false
theorem rec_eq (l r : List Int) (hp : r.Perm (l.filter pos?)) (hs : r.reverse.Pairwise (· ≤ ·)) : recency l = r := by
  unfold recency
  rw [← srt_eq ((List.reverse_perm r).trans hp) hs, List.reverse_reverse]
theorem rc22 : recency [2, 2] = [2, 2] := rec_eq _ _ (by decide) (by decide)
theorem rc31 : recency [3, 1] = [3, 1] := rec_eq _ _ (by decide) (by decide)
theorem rc3 : recency [3] = [3] := rec_eq _ _ (by decide) (by decide)
theorem rc21 : recency [2, 1] = [2, 1] := rec_eq _ _ (by decide) (by decide)
theorem rc19 : recency [1, 9] = [9, 1] := rec_eq _ _ (by decide) (by decide)
theorem rc103 : recency [1, 0, 3] = [3, 1] := rec_eq _ _ (by decide) (by decide)
theorem okNil : okRules [] := ⟨by decide, by simp⟩
def awE : List S38 := [⟨⟨0, [9]⟩, true⟩, ⟨⟨0, [2, 2]⟩, false⟩, ⟨⟨1, [3, 1]⟩, false⟩, ⟨⟨0, [3]⟩, false⟩]
theorem aw_sel : selP (lessP [] 0) awE = (1, [3, 1], true) := by
  simp [selP, unfired, awE, minT, lessP, compareP, orP, rc22, rc31, rc3, cmpL, cmpI, strAt]
theorem aw_less1 : lessP [] 0 ⟨0, [3, 1]⟩ ⟨0, [3]⟩ = true := by
  simp [lessP, compareP, orP, rc31, rc3, cmpL, cmpI, strAt]
theorem aw_less2 : lessP [] 1 ⟨0, [2, 1]⟩ ⟨0, [1, 9]⟩ = true := by
  simp [lessP, compareP, orP, rc21, rc19, cmpL, cmpI, strAt, firstP]
theorem aw_less3 : lessP [] 0 ⟨0, [2, 1]⟩ ⟨0, [1, 9]⟩ = false := by
  simp [lessP, compareP, orP, rc21, rc19, cmpL, cmpI, strAt, firstP]
theorem same_l0 (l m : List Int) (hl : l.length = m.length) (hb : l.length ≤ 9223372036854775807) : ∀ (n i : Nat), l.length - i = n → i ≤ l.length → l.take i = m.take i → Ev (fun k => intarsiaref21_SameInts.l0 k l m (i : Int)) (decide (l = m))
  | 0, i, hn, hi, ht => by
    obtain rfl : i = l.length := by omega
    refine one_round (fun k => ?_)
    simp only [intarsiaref21_SameInts.l0]
    rw [if_neg (by omega)]
    rw [List.take_length, hl, List.take_length] at ht
    rw [decide_eq_true ht]
  | n + 1, i, hn, hi, ht => by
    have hlt : i < l.length := by omega
    have hlm : i < m.length := by omega
    by_cases hc : l[i] = m[i]
    · refine Ev.step (fun k => ?_) (same_l0 l m hl hb n (i + 1) (by omega) (by omega) (by rw [List.take_succ_eq_append_getElem hlt, List.take_succ_eq_append_getElem hlm, ht, hc]))
      simp only [intarsiaref21_SameInts.l0]
      rw [if_pos (by omega), if_pos (by omega), if_pos (by omega), rd_at hlt, rd_at hlm, if_pos hc, w64 (by omega) (by omega)]
      rfl
    · have : decide (l = m) = false := decide_eq_false (fun e => by subst e; exact hc rfl)
      rw [this]
      refine one_round (fun k => ?_)
      simp only [intarsiaref21_SameInts.l0]
      rw [if_pos (by omega), if_pos (by omega), if_pos (by omega), rd_at hlt, rd_at hlm, if_neg hc]
theorem same_val (l m : List Int) (hb : l.length ≤ 9223372036854775807) : Ev (fun k => intarsiaref21_SameInts.f k l m) (decide (l = m)) := by
  by_cases h : l.length = m.length
  · refine Ev.congr (f := fun k => intarsiaref21_SameInts.l0 k l m ((0 : Nat) : Int)) (fun k => ?_) (same_l0 l m h hb _ 0 rfl (Nat.zero_le _) rfl)
    rw [intarsiaref21_SameInts.f, if_pos (by omega)]
    rfl
  · have : decide (l = m) = false := decide_eq_false (fun e => h (by rw [e]))
    rw [this]
    refine Ev.congr (f := fun _ => some false) (fun k => ?_) (Ev.now _)
    rw [intarsiaref21_SameInts.f, if_neg (by omega)]
end Go.Proofs.Ytjkdfjkaeoklmaa.Q
namespace Go.Proofs.Ytjkdfjkaeoklmaa.Q
open Go.RowKit Go.Proofs.YtjkdfjkaeoklmaaW.PrintWords Go.Proofs.YtjkdfjkaeoklmaaW.PrintLast Go.Proofs.YtjkdfjkaeoklmaaW.PrintMore
set_option linter.unusedVariables false
set_option linter.unusedSimpArgs false
/-- What a kind reads, in a past world, whatever it leads to. -/
def kG {α : Type} (d : Kd α) (w : World) : Kd α where
  sz := d.sz
  E := []
  K := fun _ x cs => Kd.FK d w (fun _ => True) x cs
  M := fun _ _ _ x cs => Kd.FK d w (fun _ => True) x cs
  K_len := fun h => d.K_len (Kd.FK_now h)
  K_one := fun h => d.K_one (Kd.FK_now h)
  K_below := fun _ h => h
  K_of_M := fun h => h
  M_mono := fun _ h => h
  M_bound := fun h => h
  M_move := fun _ h => h
  M_lower := fun _ h => h
theorem F_all {α : Type} {d : Kd α} (hd : Kd.Heap d) {w : World} {A : Option Addr} {n : Nat} {xs : List α} (h : d.C w A n xs) : Kd.F d w (fun _ => True) A n xs := fun W' hW => hd.C (fun k hk => hW k trivial hk) h
theorem kG_V {α : Type} {d : Kd α} (hd : Kd.Heap d) {w w1 : World} {e base : Nat} {ok : Nat → Prop} {v : Value} {xs : List α} (h : (kG d w).R e w1 base ok v xs) (hb : Below w.heap.size w w1) {b : Nat} : Kd.V d e w1 b (fun _ => True) v xs := by
  obtain ⟨A, c, rfl, hl, hC⟩ := Kd.R_reads h
  refine Kd.V_mk hl (F_all hd ⟨hC.1, hC.2.1, fun hn => ?_⟩)
  obtain ⟨ad, rfl, hc⟩ := hC.2.2 hn
  refine ⟨ad, rfl, fun j p hj => ?_⟩
  obtain ⟨c, hs, hr, hcell⟩ := hc j p hj
  exact ⟨c, hs, hr w1 (fun k _ hk => hb.block k hk), hcell⟩
theorem repsN_cons {α : Type} {R : α → List Value → Prop} {sz : Nat} {x : α} {cs : List Value} {xs : List α} {inner : List Value} (h : R x cs) (hl : cs.length = sz) (hr : Reps R sz xs inner) : Reps R sz (x :: xs) (cs ++ inner) := by
  refine ⟨by rw [List.length_append, hl, hr.1, List.length_cons, Nat.succ_mul, Nat.add_comm], fun j p hj => ?_⟩
  cases j with
  | zero =>
    simp at hj
    subst hj
    rw [Nat.zero_mul, List.drop_zero, ← hl, List.take_left']
    · exact h
    · rfl
  | succ j =>
    have := hr.2 j p (by simpa using hj)
    rw [show (j + 1) * sz = cs.length + j * sz by rw [Nat.succ_mul, hl, Nat.add_comm], List.drop_append, List.drop_of_length_le (by omega), List.nil_append, Nat.add_sub_cancel_left]
    exact this
theorem drawn_below {w w1 : World} (h : Drawn0 w w1) : Below w.heap.size w w1 := by
  obtain ⟨n, rfl⟩ := h
  exact pw_below_drewN (Below.refl _ _) n
set_option maxHeartbeats 4000000 in
set_option maxRecDepth 100000 in
theorem awake8 (KK : Nat) (w : World) (h1 : order_Select.f KK [] 0 awE = some (1, [3, 1], true)) (h2 : order_Less.f KK [] 0 0 [3, 1] 0 [3] = some true) (h3 : order_Less.f KK [] 1 0 [2, 1] 0 [1, 9] = some true) (h4 : order_Less.f KK [] 0 0 [2, 1] 0 [1, 9] = some false)
    (h5 : order_Recency.f [1, 0, 3] = some [3, 1]) (h6 : intarsiaref21_SameInts.f KK [3, 1] [3, 1] = some true) (h7 : order_Sort.f KK [] 0 [⟨0, [1]⟩] = some [⟨0, [1]⟩]) :
    Calls Try.prog 8 #[] w fun e w' => e = .returned (.bool true) ∧ Below w.heap.size w w' := by
  have hu38 := Try.underlying38
  have hu32 := Try.underlying32
  have HB := Aside0.mk (Below.refl w.heap.size w)
  have HSEL := Aside0.mk h1
  have HL1 := Aside0.mk h2
  have HL2 := Aside0.mk h3
  have HL3 := Aside0.mk h4
  have HREC := Aside0.mk h5
  have HSAME := Aside0.mk h6
  have HSRT := Aside0.mk h7
  clear h1 h2 h3 h4 h5 h6 h7
  go_enter Try.func8, Try.ntmps8
  go_wp2_with (first
   | ((with_reducible refine gate_dst (N := 4) rfl ?_); (try (refine gate_guard (by rfl) ?_; dsimp only)); refine Kd.R_lit (Kd.int .i64) _ 3 ?hg (N := 4) ?hd (xs := ([9] : List Int)) (inner := [.int .i64 9]) (ok := fun _ => True) (okp := fun _ => True) ?hr ?hp (fun _ hk => hk) trivial (Below.refl _ _) (Nat.le_refl _) (by decide) ?_; (case hd => rfl); (case hg => rfl); (case hr => first | (go_simp; done) | (go_simp; rfl)); (case hp => exact (Reps.one (show Kd.M (Kd.int .i64) _ _ _ 9 [.int .i64 9] from rfl) (Reps.none _ _))); intro v4 w4 ho hb hg_ hnew_; clear hg_ hnew_; obtain ⟨A4, c4, rfl, hl, hc⟩ := Kd.R_reads ho; have HL4 := Aside0.mk hl; have HC4 := Aside0.mk hc; clear ho hl hc; have HB_ := Aside0.mk (below_step HB.out hb); clear HB; have HB := HB_; clear HB_; clear hb)
   | ((with_reducible refine gate_callee (f := 23) rfl ?_); (try (refine gate_guard (by rfl) ?_; dsimp only)); refine goesL_ (some 5) rfl rfl Try.func23 (by kernel_rfl) rfl #[.int .i64 0, .slice A4 1 c4] rfl (by first | rfl | (go_simp; done) | (go_simp; rfl)) ?_; refine (inst23 0 A4 1 c4 _).mono ?_; rintro e w5 ⟨rfl, hb⟩; refine ⟨_, rfl, ?_⟩; have HB_ := Aside0.mk (below_step HB.out hb); clear HB; have HB := HB_; clear HB_; have n_ := Aside0.mk (Kd.C_below HC4.out hb); clear HC4; have HC4 := n_; clear n_; clear hb)
   | ((with_reducible refine gate_dst (N := 7) rfl ?_); (try (refine gate_guard (by rfl) ?_; dsimp only)); refine Kd.R_lit (Kd.int .i64) _ 3 ?hg (N := 7) ?hd (xs := ([2, 2] : List Int)) (inner := [.int .i64 2, .int .i64 2]) (ok := fun _ => True) (okp := fun _ => True) ?hr ?hp (fun _ hk => hk) trivial (Below.refl _ _) (Nat.le_refl _) (by decide) ?_; (case hd => rfl); (case hg => rfl); (case hr => first | (go_simp; done) | (go_simp; rfl)); (case hp => exact (Reps.one (show Kd.M (Kd.int .i64) _ _ _ 2 [.int .i64 2] from rfl) (Reps.one (show Kd.M (Kd.int .i64) _ _ _ 2 [.int .i64 2] from rfl) (Reps.none _ _)))); intro v7 w7 ho hb hg_ hnew_; clear hg_ hnew_; obtain ⟨A7, c7, rfl, hl, hc⟩ := Kd.R_reads ho; have HL7 := Aside0.mk hl; have HC7 := Aside0.mk hc; clear ho hl hc; have HB_ := Aside0.mk (below_step HB.out hb); clear HB; have HB := HB_; clear HB_; have n_ := Aside0.mk (Kd.C_below HC4.out hb); clear HC4; have HC4 := n_; clear n_; clear hb)
   | ((with_reducible refine gate_callee (f := 23) rfl ?_); (try (refine gate_guard (by rfl) ?_; dsimp only)); refine goesL_ (some 8) rfl rfl Try.func23 (by kernel_rfl) rfl #[.int .i64 0, .slice A7 2 c7] rfl (by first | rfl | (go_simp; done) | (go_simp; rfl)) ?_; refine (inst23 0 A7 2 c7 _).mono ?_; rintro e w8 ⟨rfl, hb⟩; refine ⟨_, rfl, ?_⟩; have HB_ := Aside0.mk (below_step HB.out hb); clear HB; have HB := HB_; clear HB_; have n_ := Aside0.mk (Kd.C_below HC4.out hb); clear HC4; have HC4 := n_; clear n_; have n_ := Aside0.mk (Kd.C_below HC7.out hb); clear HC7; have HC7 := n_; clear n_; clear hb)
   | ((with_reducible refine gate_dst (N := 10) rfl ?_); (try (refine gate_guard (by rfl) ?_; dsimp only)); refine Kd.R_lit (Kd.int .i64) _ 3 ?hg (N := 10) ?hd (xs := ([3, 1] : List Int)) (inner := [.int .i64 3, .int .i64 1]) (ok := fun _ => True) (okp := fun _ => True) ?hr ?hp (fun _ hk => hk) trivial (Below.refl _ _) (Nat.le_refl _) (by decide) ?_; (case hd => rfl); (case hg => rfl); (case hr => first | (go_simp; done) | (go_simp; rfl)); (case hp => exact (Reps.one (show Kd.M (Kd.int .i64) _ _ _ 3 [.int .i64 3] from rfl) (Reps.one (show Kd.M (Kd.int .i64) _ _ _ 1 [.int .i64 1] from rfl) (Reps.none _ _)))); intro v10 w10 ho hb hg_ hnew_; clear hg_ hnew_; obtain ⟨A10, c10, rfl, hl, hc⟩ := Kd.R_reads ho; have HL10 := Aside0.mk hl; have HC10 := Aside0.mk hc; clear ho hl hc; have HB_ := Aside0.mk (below_step HB.out hb); clear HB; have HB := HB_; clear HB_; have n_ := Aside0.mk (Kd.C_below HC4.out hb); clear HC4; have HC4 := n_; clear n_; have n_ := Aside0.mk (Kd.C_below HC7.out hb); clear HC7; have HC7 := n_; clear n_; clear hb)
   | ((with_reducible refine gate_callee (f := 23) rfl ?_); (try (refine gate_guard (by rfl) ?_; dsimp only)); refine goesL_ (some 11) rfl rfl Try.func23 (by kernel_rfl) rfl #[.int .i64 1, .slice A10 2 c10] rfl (by first | rfl | (go_simp; done) | (go_simp; rfl)) ?_; refine (inst23 1 A10 2 c10 _).mono ?_; rintro e w11 ⟨rfl, hb⟩; refine ⟨_, rfl, ?_⟩; have HB_ := Aside0.mk (below_step HB.out hb); clear HB; have HB := HB_; clear HB_; have n_ := Aside0.mk (Kd.C_below HC4.out hb); clear HC4; have HC4 := n_; clear n_; have n_ := Aside0.mk (Kd.C_below HC7.out hb); clear HC7; have HC7 := n_; clear n_; have n_ := Aside0.mk (Kd.C_below HC10.out hb); clear HC10; have HC10 := n_; clear n_; clear hb)
   | ((with_reducible refine gate_dst (N := 13) rfl ?_); (try (refine gate_guard (by rfl) ?_; dsimp only)); refine Kd.R_lit (Kd.int .i64) _ 3 ?hg (N := 13) ?hd (xs := ([3] : List Int)) (inner := [.int .i64 3]) (ok := fun _ => True) (okp := fun _ => True) ?hr ?hp (fun _ hk => hk) trivial (Below.refl _ _) (Nat.le_refl _) (by decide) ?_; (case hd => rfl); (case hg => rfl); (case hr => first | (go_simp; done) | (go_simp; rfl)); (case hp => exact (Reps.one (show Kd.M (Kd.int .i64) _ _ _ 3 [.int .i64 3] from rfl) (Reps.none _ _))); intro v13 w13 ho hb hg_ hnew_; clear hg_ hnew_; obtain ⟨A13, c13, rfl, hl, hc⟩ := Kd.R_reads ho; have HL13 := Aside0.mk hl; have HC13 := Aside0.mk hc; clear ho hl hc; have HB_ := Aside0.mk (below_step HB.out hb); clear HB; have HB := HB_; clear HB_; have n_ := Aside0.mk (Kd.C_below HC4.out hb); clear HC4; have HC4 := n_; clear n_; have n_ := Aside0.mk (Kd.C_below HC7.out hb); clear HC7; have HC7 := n_; clear n_; have n_ := Aside0.mk (Kd.C_below HC10.out hb); clear HC10; have HC10 := n_; clear n_; clear hb)
   | ((with_reducible refine gate_callee (f := 23) rfl ?_); (try (refine gate_guard (by rfl) ?_; dsimp only)); refine goesL_ (some 14) rfl rfl Try.func23 (by kernel_rfl) rfl #[.int .i64 0, .slice A13 1 c13] rfl (by first | rfl | (go_simp; done) | (go_simp; rfl)) ?_; refine (inst23 0 A13 1 c13 _).mono ?_; rintro e w14 ⟨rfl, hb⟩; refine ⟨_, rfl, ?_⟩; have HB_ := Aside0.mk (below_step HB.out hb); clear HB; have HB := HB_; clear HB_; have n_ := Aside0.mk (Kd.C_below HC4.out hb); clear HC4; have HC4 := n_; clear n_; have n_ := Aside0.mk (Kd.C_below HC7.out hb); clear HC7; have HC7 := n_; clear n_; have n_ := Aside0.mk (Kd.C_below HC10.out hb); clear HC10; have HC10 := n_; clear n_; have n_ := Aside0.mk (Kd.C_below HC13.out hb); clear HC13; have HC13 := n_; clear n_; clear hb)
   | ((with_reducible refine gate_dst (N := 16) rfl ?_); (try (refine gate_guard (by rfl) ?_; dsimp only)); refine Kd.R_lit (kG k38 w14) _ 38 ?hg (N := 16) ?hd (xs := awE) (inner := [.int .i64 0, .slice A4 1 c4, .bool true, .int .i64 0, .slice A7 2 c7, .bool false, .int .i64 1, .slice A10 2 c10, .bool false, .int .i64 0, .slice A13 1 c13, .bool false]) (ok := fun _ => True) (okp := fun _ => True) ?hr ?hp (fun _ hk => hk) trivial (Below.refl _ _) (Nat.le_refl _) (show (4 : Nat) ≤ 9223372036854775807 from by decide) ?_; (case hd => rfl); (case hg => rfl); (case hr => first | (go_simp; done) | (go_simp; rfl)); (case hp => exact (repsN_cons (x := (⟨⟨0, [9]⟩, true⟩ : S38)) (cs := [.int .i64 0, .slice A4 1 c4, .bool true]) (k38_mkF _ _ _ HL4.out (F_all (Kd.heap_int _) HC4.out)) rfl (repsN_cons (x := (⟨⟨0, [2, 2]⟩, false⟩ : S38)) (cs := [.int .i64 0, .slice A7 2 c7, .bool false]) (k38_mkF _ _ _ HL7.out (F_all (Kd.heap_int _) HC7.out)) rfl (repsN_cons (x := (⟨⟨1, [3, 1]⟩, false⟩ : S38)) (cs := [.int .i64 1, .slice A10 2 c10, .bool false]) (k38_mkF _ _ _ HL10.out (F_all (Kd.heap_int _) HC10.out)) rfl (repsN_cons (x := (⟨⟨0, [3]⟩, false⟩ : S38)) (cs := [.int .i64 0, .slice A13 1 c13, .bool false]) (k38_mkF _ _ _ HL13.out (F_all (Kd.heap_int _) HC13.out)) rfl (Reps.none _ _)))))); intro v16 w16 ho hb hg_ hnew_; clear hg_ hnew_; have hV := kG_V (b := 0) k38_heap ho hb; obtain ⟨A16, c16, rfl⟩ := Kd.V_slice hV; have HV16 := Aside0.mk hV; clear ho hV HC4 HC7 HC10 HC13; have HB_ := Aside0.mk (below_step HB.out hb); clear HB; have HB := HB_; clear HB_; clear hb)
   | ((with_reducible refine gate_callee (f := 19) rfl ?_); (try (refine gate_guard (by rfl) ?_; dsimp only)); refine goesL_ (some 17) rfl rfl Try.func19 (by kernel_rfl) rfl #[.slice none 0 0, .int .u8 0, .slice A16 4 c16] rfl (by first | rfl | (go_simp; done) | (go_simp; rfl)) ?_; refine (order_Select.calls KK none 0 [] 0 (fun _ => True) A16 c16 awE 1 [3, 1] true _ (Kd.C_nil _ _) (Nat.le_refl _) HV16.out HSEL.out).mono ?_; rintro e w17 ⟨v17, rfl, hv, hb⟩; obtain ⟨A17, c17, rfl⟩ := Kd.V_slice hv; refine ⟨_, rfl, ?_⟩; clear hv HV16; have HB_ := Aside0.mk (below_step HB.out hb); clear HB; have HB := HB_; clear HB_; clear hb)
   | ((with_reducible refine gate_dst (N := 1) rfl ?_); refine box_event ?hg (N := 1) ?hd (cs := #[.int .i64 0, .slice none 0 0]) (t := 32) ?hr ?_; (case hd => rfl); (case hg => rfl); (case hr => first | (go_simp; done) | (go_simp; rfl)); intro g1 hg1 w1 hbox1 hb1; have hcz_0 : w1.cell? ⟨g1, 0, none⟩ = some (.int .i64 0) := (blk_cell hbox1 0).trans rfl; have hcz_1 : w1.cell? ⟨g1, 1, none⟩ = some (.slice none 0 0) := (blk_cell hbox1 1).trans rfl; have hfz_0 := blk_frozen hbox1 0; have hfz_1 := blk_frozen hbox1 1; have BK1 := Aside0.mk (And.intro hg1 (And.intro hbox1 hb1)); clear hg1 hbox1 hb1)
   | ((with_reducible refine gate_dst (N := 27) rfl ?_); (try (refine gate_guard (by rfl) ?_; dsimp only)); refine Kd.R_lit (Kd.int .i64) _ 3 ?hg (N := 27) ?hd (xs := ([3, 1] : List Int)) (inner := [.int .i64 3, .int .i64 1]) (ok := fun _ => True) (okp := fun _ => True) ?hr ?hp (fun _ hk => hk) trivial (Below.refl _ _) (Nat.le_refl _) (by decide) ?_; (case hd => rfl); (case hg => rfl); (case hr => first | (go_simp; done) | (go_simp; rfl)); (case hp => exact (Reps.one (show Kd.M (Kd.int .i64) _ _ _ 3 [.int .i64 3] from rfl) (Reps.one (show Kd.M (Kd.int .i64) _ _ _ 1 [.int .i64 1] from rfl) (Reps.none _ _)))); intro v27 w27 ho hb hg_ hnew_; clear hg_ hnew_; obtain ⟨A27, c27, rfl, hl, hc⟩ := Kd.R_reads ho; have HL27 := Aside0.mk hl; have HC27 := Aside0.mk hc; clear ho hl hc; have le1 : w.heap.size ≤ g1 := Nat.le_trans HB.out.size (Nat.le_of_eq BK1.out.1.symm); have HB_ := Aside0.mk (below_step (below_set (below_set (below_step HB.out BK1.out.2.2) le1) le1) hb); clear le1; clear HB; have HB := HB_; clear HB_; clear hb)
   | ((with_reducible refine gate_callee (f := 23) rfl ?_); (try (refine gate_guard (by rfl) ?_; dsimp only)); refine goesL_ (some 28) rfl rfl Try.func23 (by kernel_rfl) rfl #[.int .i64 0, .slice A27 2 c27] rfl (by first | rfl | (go_simp; done) | (go_simp; rfl)) ?_; refine (inst23 0 A27 2 c27 _).mono ?_; rintro e w28 ⟨rfl, hb⟩; refine ⟨_, rfl, ?_⟩; have HB_ := Aside0.mk (below_step HB.out hb); clear HB; have HB := HB_; clear HB_; have n_ := Aside0.mk (Kd.C_below HC27.out hb); clear HC27; have HC27 := n_; clear n_; clear hb)
   | ((with_reducible refine gate_dst (N := 29) rfl ?_); (try (refine gate_guard (by rfl) ?_; dsimp only)); refine Kd.R_lit (Kd.int .i64) _ 3 ?hg (N := 29) ?hd (xs := ([3] : List Int)) (inner := [.int .i64 3]) (ok := fun _ => True) (okp := fun _ => True) ?hr ?hp (fun _ hk => hk) trivial (Below.refl _ _) (Nat.le_refl _) (by decide) ?_; (case hd => rfl); (case hg => rfl); (case hr => first | (go_simp; done) | (go_simp; rfl)); (case hp => exact (Reps.one (show Kd.M (Kd.int .i64) _ _ _ 3 [.int .i64 3] from rfl) (Reps.none _ _))); intro v29 w29 ho hb hg_ hnew_; clear hg_ hnew_; obtain ⟨A29, c29, rfl, hl, hc⟩ := Kd.R_reads ho; have HL29 := Aside0.mk hl; have HC29 := Aside0.mk hc; clear ho hl hc; have HB_ := Aside0.mk (below_step HB.out hb); clear HB; have HB := HB_; clear HB_; have n_ := Aside0.mk (Kd.C_below HC27.out hb); clear HC27; have HC27 := n_; clear n_; clear hb)
   | ((with_reducible refine gate_callee (f := 23) rfl ?_); (try (refine gate_guard (by rfl) ?_; dsimp only)); refine goesL_ (some 30) rfl rfl Try.func23 (by kernel_rfl) rfl #[.int .i64 0, .slice A29 1 c29] rfl (by first | rfl | (go_simp; done) | (go_simp; rfl)) ?_; refine (inst23 0 A29 1 c29 _).mono ?_; rintro e w30 ⟨rfl, hb⟩; refine ⟨_, rfl, ?_⟩; have HB_ := Aside0.mk (below_step HB.out hb); clear HB; have HB := HB_; clear HB_; have n_ := Aside0.mk (Kd.C_below HC27.out hb); clear HC27; have HC27 := n_; clear n_; have n_ := Aside0.mk (Kd.C_below HC29.out hb); clear HC29; have HC29 := n_; clear n_; clear hb)
   | ((with_reducible refine gate_callee (f := 9) rfl ?_); (try (refine gate_guard (by rfl) ?_; dsimp only)); refine goesL_ (some 31) rfl rfl Try.func9 (by kernel_rfl) rfl #[.slice none 0 0, .int .u8 0, .agg #[.int .i64 0, .slice A27 2 c27], .agg #[.int .i64 0, .slice A29 1 c29]] rfl (by first | rfl | (go_simp; done) | (go_simp; rfl)) ?_; refine (order_Less.calls KK none 0 [] 0 0 A27 c27 [3, 1] 0 A29 c29 [3] _ _ (Kd.C_nil _ _) (Nat.le_refl _) HC27.out HL27.out HC29.out HL29.out HL1.out).mono ?_; rintro e w31 ⟨rfl, hb⟩; refine ⟨_, rfl, ?_⟩; clear HC27 HC29; have HB_ := Aside0.mk (below_step HB.out hb); clear HB; have HB := HB_; clear HB_; clear hb)
   | ((with_reducible refine gate_dst (N := 34) rfl ?_); (try (refine gate_guard (by rfl) ?_; dsimp only)); refine Kd.R_lit (Kd.int .i64) _ 3 ?hg (N := 34) ?hd (xs := ([2, 1] : List Int)) (inner := [.int .i64 2, .int .i64 1]) (ok := fun _ => True) (okp := fun _ => True) ?hr ?hp (fun _ hk => hk) trivial (Below.refl _ _) (Nat.le_refl _) (by decide) ?_; (case hd => rfl); (case hg => rfl); (case hr => first | (go_simp; done) | (go_simp; rfl)); (case hp => exact (Reps.one (show Kd.M (Kd.int .i64) _ _ _ 2 [.int .i64 2] from rfl) (Reps.one (show Kd.M (Kd.int .i64) _ _ _ 1 [.int .i64 1] from rfl) (Reps.none _ _)))); intro v34 w34 ho hb hg_ hnew_; clear hg_ hnew_; obtain ⟨A34, c34, rfl, hl, hc⟩ := Kd.R_reads ho; have HL34 := Aside0.mk hl; have HC34 := Aside0.mk hc; clear ho hl hc; have HB_ := Aside0.mk (below_step HB.out hb); clear HB; have HB := HB_; clear HB_; clear hb)
   | ((with_reducible refine gate_callee (f := 23) rfl ?_); (try (refine gate_guard (by rfl) ?_; dsimp only)); refine goesL_ (some 35) rfl rfl Try.func23 (by kernel_rfl) rfl #[.int .i64 0, .slice A34 2 c34] rfl (by first | rfl | (go_simp; done) | (go_simp; rfl)) ?_; refine (inst23 0 A34 2 c34 _).mono ?_; rintro e w35 ⟨rfl, hb⟩; refine ⟨_, rfl, ?_⟩; have HB_ := Aside0.mk (below_step HB.out hb); clear HB; have HB := HB_; clear HB_; have n_ := Aside0.mk (Kd.C_below HC34.out hb); clear HC34; have HC34 := n_; clear n_; clear hb)
   | ((with_reducible refine gate_dst (N := 36) rfl ?_); (try (refine gate_guard (by rfl) ?_; dsimp only)); refine Kd.R_lit (Kd.int .i64) _ 3 ?hg (N := 36) ?hd (xs := ([1, 9] : List Int)) (inner := [.int .i64 1, .int .i64 9]) (ok := fun _ => True) (okp := fun _ => True) ?hr ?hp (fun _ hk => hk) trivial (Below.refl _ _) (Nat.le_refl _) (by decide) ?_; (case hd => rfl); (case hg => rfl); (case hr => first | (go_simp; done) | (go_simp; rfl)); (case hp => exact (Reps.one (show Kd.M (Kd.int .i64) _ _ _ 1 [.int .i64 1] from rfl) (Reps.one (show Kd.M (Kd.int .i64) _ _ _ 9 [.int .i64 9] from rfl) (Reps.none _ _)))); intro v36 w36 ho hb hg_ hnew_; clear hg_ hnew_; obtain ⟨A36, c36, rfl, hl, hc⟩ := Kd.R_reads ho; have HL36 := Aside0.mk hl; have HC36 := Aside0.mk hc; clear ho hl hc; have HB_ := Aside0.mk (below_step HB.out hb); clear HB; have HB := HB_; clear HB_; have n_ := Aside0.mk (Kd.C_below HC34.out hb); clear HC34; have HC34 := n_; clear n_; clear hb)
   | ((with_reducible refine gate_callee (f := 23) rfl ?_); (try (refine gate_guard (by rfl) ?_; dsimp only)); refine goesL_ (some 37) rfl rfl Try.func23 (by kernel_rfl) rfl #[.int .i64 0, .slice A36 2 c36] rfl (by first | rfl | (go_simp; done) | (go_simp; rfl)) ?_; refine (inst23 0 A36 2 c36 _).mono ?_; rintro e w37 ⟨rfl, hb⟩; refine ⟨_, rfl, ?_⟩; have HB_ := Aside0.mk (below_step HB.out hb); clear HB; have HB := HB_; clear HB_; have n_ := Aside0.mk (Kd.C_below HC34.out hb); clear HC34; have HC34 := n_; clear n_; have n_ := Aside0.mk (Kd.C_below HC36.out hb); clear HC36; have HC36 := n_; clear n_; clear hb)
   | ((with_reducible refine gate_callee (f := 9) rfl ?_); (try (refine gate_guard (by rfl) ?_; dsimp only)); refine goesL_ (some 38) rfl rfl Try.func9 (by kernel_rfl) rfl #[.slice none 0 0, .int .u8 1, .agg #[.int .i64 0, .slice A34 2 c34], .agg #[.int .i64 0, .slice A36 2 c36]] rfl (by first | rfl | (go_simp; done) | (go_simp; rfl)) ?_; refine (order_Less.calls KK none 0 [] 1 0 A34 c34 [2, 1] 0 A36 c36 [1, 9] _ _ (Kd.C_nil _ _) (Nat.le_refl _) HC34.out HL34.out HC36.out HL36.out HL2.out).mono ?_; rintro e w38 ⟨rfl, hb⟩; refine ⟨_, rfl, ?_⟩; clear HC34 HC36; have HB_ := Aside0.mk (below_step HB.out hb); clear HB; have HB := HB_; clear HB_; clear hb)
   | ((with_reducible refine gate_dst (N := 41) rfl ?_); (try (refine gate_guard (by rfl) ?_; dsimp only)); refine Kd.R_lit (Kd.int .i64) _ 3 ?hg (N := 41) ?hd (xs := ([2, 1] : List Int)) (inner := [.int .i64 2, .int .i64 1]) (ok := fun _ => True) (okp := fun _ => True) ?hr ?hp (fun _ hk => hk) trivial (Below.refl _ _) (Nat.le_refl _) (by decide) ?_; (case hd => rfl); (case hg => rfl); (case hr => first | (go_simp; done) | (go_simp; rfl)); (case hp => exact (Reps.one (show Kd.M (Kd.int .i64) _ _ _ 2 [.int .i64 2] from rfl) (Reps.one (show Kd.M (Kd.int .i64) _ _ _ 1 [.int .i64 1] from rfl) (Reps.none _ _)))); intro v41 w41 ho hb hg_ hnew_; clear hg_ hnew_; obtain ⟨A41, c41, rfl, hl, hc⟩ := Kd.R_reads ho; have HL41 := Aside0.mk hl; have HC41 := Aside0.mk hc; clear ho hl hc; have HB_ := Aside0.mk (below_step HB.out hb); clear HB; have HB := HB_; clear HB_; clear hb)
   | ((with_reducible refine gate_callee (f := 23) rfl ?_); (try (refine gate_guard (by rfl) ?_; dsimp only)); refine goesL_ (some 42) rfl rfl Try.func23 (by kernel_rfl) rfl #[.int .i64 0, .slice A41 2 c41] rfl (by first | rfl | (go_simp; done) | (go_simp; rfl)) ?_; refine (inst23 0 A41 2 c41 _).mono ?_; rintro e w42 ⟨rfl, hb⟩; refine ⟨_, rfl, ?_⟩; have HB_ := Aside0.mk (below_step HB.out hb); clear HB; have HB := HB_; clear HB_; have n_ := Aside0.mk (Kd.C_below HC41.out hb); clear HC41; have HC41 := n_; clear n_; clear hb)
   | ((with_reducible refine gate_dst (N := 43) rfl ?_); (try (refine gate_guard (by rfl) ?_; dsimp only)); refine Kd.R_lit (Kd.int .i64) _ 3 ?hg (N := 43) ?hd (xs := ([1, 9] : List Int)) (inner := [.int .i64 1, .int .i64 9]) (ok := fun _ => True) (okp := fun _ => True) ?hr ?hp (fun _ hk => hk) trivial (Below.refl _ _) (Nat.le_refl _) (by decide) ?_; (case hd => rfl); (case hg => rfl); (case hr => first | (go_simp; done) | (go_simp; rfl)); (case hp => exact (Reps.one (show Kd.M (Kd.int .i64) _ _ _ 1 [.int .i64 1] from rfl) (Reps.one (show Kd.M (Kd.int .i64) _ _ _ 9 [.int .i64 9] from rfl) (Reps.none _ _)))); intro v43 w43 ho hb hg_ hnew_; clear hg_ hnew_; obtain ⟨A43, c43, rfl, hl, hc⟩ := Kd.R_reads ho; have HL43 := Aside0.mk hl; have HC43 := Aside0.mk hc; clear ho hl hc; have HB_ := Aside0.mk (below_step HB.out hb); clear HB; have HB := HB_; clear HB_; have n_ := Aside0.mk (Kd.C_below HC41.out hb); clear HC41; have HC41 := n_; clear n_; clear hb)
   | ((with_reducible refine gate_callee (f := 23) rfl ?_); (try (refine gate_guard (by rfl) ?_; dsimp only)); refine goesL_ (some 44) rfl rfl Try.func23 (by kernel_rfl) rfl #[.int .i64 0, .slice A43 2 c43] rfl (by first | rfl | (go_simp; done) | (go_simp; rfl)) ?_; refine (inst23 0 A43 2 c43 _).mono ?_; rintro e w44 ⟨rfl, hb⟩; refine ⟨_, rfl, ?_⟩; have HB_ := Aside0.mk (below_step HB.out hb); clear HB; have HB := HB_; clear HB_; have n_ := Aside0.mk (Kd.C_below HC41.out hb); clear HC41; have HC41 := n_; clear n_; have n_ := Aside0.mk (Kd.C_below HC43.out hb); clear HC43; have HC43 := n_; clear n_; clear hb)
   | ((with_reducible refine gate_callee (f := 9) rfl ?_); (try (refine gate_guard (by rfl) ?_; dsimp only)); refine goesL_ (some 45) rfl rfl Try.func9 (by kernel_rfl) rfl #[.slice none 0 0, .int .u8 0, .agg #[.int .i64 0, .slice A41 2 c41], .agg #[.int .i64 0, .slice A43 2 c43]] rfl (by first | rfl | (go_simp; done) | (go_simp; rfl)) ?_; refine (order_Less.calls KK none 0 [] 0 0 A41 c41 [2, 1] 0 A43 c43 [1, 9] _ _ (Kd.C_nil _ _) (Nat.le_refl _) HC41.out HL41.out HC43.out HL43.out HL3.out).mono ?_; rintro e w45 ⟨rfl, hb⟩; refine ⟨_, rfl, ?_⟩; clear HC41 HC43; have HB_ := Aside0.mk (below_step HB.out hb); clear HB; have HB := HB_; clear HB_; clear hb)
   | ((with_reducible refine gate_dst (N := 51) rfl ?_); (try (refine gate_guard (by rfl) ?_; dsimp only)); refine Kd.R_lit (Kd.int .i64) _ 3 ?hg (N := 51) ?hd (xs := ([1, 0, 3] : List Int)) (inner := [.int .i64 1, .int .i64 0, .int .i64 3]) (ok := fun _ => True) (okp := fun _ => True) ?hr ?hp (fun _ hk => hk) trivial (Below.refl _ _) (Nat.le_refl _) (by decide) ?_; (case hd => rfl); (case hg => rfl); (case hr => first | (go_simp; done) | (go_simp; rfl)); (case hp => exact (Reps.one (show Kd.M (Kd.int .i64) _ _ _ 1 [.int .i64 1] from rfl) (Reps.one (show Kd.M (Kd.int .i64) _ _ _ 0 [.int .i64 0] from rfl) (Reps.one (show Kd.M (Kd.int .i64) _ _ _ 3 [.int .i64 3] from rfl) (Reps.none _ _))))); intro v51 w51 ho hb hg_ hnew_; clear hg_ hnew_; obtain ⟨A51, c51, rfl, hl, hc⟩ := Kd.R_reads ho; have HL51 := Aside0.mk hl; have HC51 := Aside0.mk hc; clear ho hl hc; have HB_ := Aside0.mk (below_step HB.out hb); clear HB; have HB := HB_; clear HB_; clear hb)
   | ((with_reducible refine gate_callee (f := 15) rfl ?_); (try (refine gate_guard (by rfl) ?_; dsimp only)); refine goesL_ (some 52) rfl rfl Try.func15 (by kernel_rfl) rfl #[.slice A51 3 c51] rfl (by first | rfl | (go_simp; done) | (go_simp; rfl)) ?_; refine (order_Recency.calls A51 c51 [1, 0, 3] [3, 1] _ HC51.out HL51.out HREC.out).mono ?_; rintro e w52 ⟨v52, rfl, ho, hb⟩; refine ⟨_, rfl, ?_⟩; obtain ⟨A52, c52, rfl, hl, hc⟩ := Kd.R_reads ho; have HL52 := Aside0.mk hl; have HC52 := Aside0.mk hc; clear ho hl hc HC51; have HB_ := Aside0.mk (below_step HB.out hb); clear HB; have HB := HB_; clear HB_; clear hb)
   | ((with_reducible refine gate_dst (N := 53) rfl ?_); (try (refine gate_guard (by rfl) ?_; dsimp only)); refine Kd.R_lit (Kd.int .i64) _ 3 ?hg (N := 53) ?hd (xs := ([3, 1] : List Int)) (inner := [.int .i64 3, .int .i64 1]) (ok := fun _ => True) (okp := fun _ => True) ?hr ?hp (fun _ hk => hk) trivial (Below.refl _ _) (Nat.le_refl _) (by decide) ?_; (case hd => rfl); (case hg => rfl); (case hr => first | (go_simp; done) | (go_simp; rfl)); (case hp => exact (Reps.one (show Kd.M (Kd.int .i64) _ _ _ 3 [.int .i64 3] from rfl) (Reps.one (show Kd.M (Kd.int .i64) _ _ _ 1 [.int .i64 1] from rfl) (Reps.none _ _)))); intro v53 w53 ho hb hg_ hnew_; clear hg_ hnew_; obtain ⟨A53, c53, rfl, hl, hc⟩ := Kd.R_reads ho; have HL53 := Aside0.mk hl; have HC53 := Aside0.mk hc; clear ho hl hc; have HB_ := Aside0.mk (below_step HB.out hb); clear HB; have HB := HB_; clear HB_; have n_ := Aside0.mk (Kd.C_below HC52.out hb); clear HC52; have HC52 := n_; clear n_; clear hb)
   | ((with_reducible refine gate_callee (f := 14) rfl ?_); (try (refine gate_guard (by rfl) ?_; dsimp only)); refine goesL_ (some 54) rfl rfl Try.func14 (by kernel_rfl) rfl #[.slice A52 2 c52, .slice A53 2 c53] rfl (by first | rfl | (go_simp; done) | (go_simp; rfl)) ?_; refine (intarsiaref21_SameInts.calls KK A52 c52 [3, 1] A53 c53 [3, 1] true _ HC52.out HL52.out HC53.out HL53.out HSAME.out).mono ?_; rintro e w54 ⟨rfl, hd⟩; refine ⟨_, rfl, ?_⟩; have hb := drawn_below hd; clear hd HC52 HC53; have HB_ := Aside0.mk (below_step HB.out hb); clear HB; have HB := HB_; clear HB_; clear hb)
   | ((with_reducible refine gate_dst (N := 57) rfl ?_); (try (refine gate_guard (by rfl) ?_; dsimp only)); refine Kd.R_lit (Kd.int .i64) _ 3 ?hg (N := 57) ?hd (xs := ([1] : List Int)) (inner := [.int .i64 1]) (ok := fun _ => True) (okp := fun _ => True) ?hr ?hp (fun _ hk => hk) trivial (Below.refl _ _) (Nat.le_refl _) (by decide) ?_; (case hd => rfl); (case hg => rfl); (case hr => first | (go_simp; done) | (go_simp; rfl)); (case hp => exact (Reps.one (show Kd.M (Kd.int .i64) _ _ _ 1 [.int .i64 1] from rfl) (Reps.none _ _))); intro v57 w57 ho hb hg_ hnew_; clear hg_ hnew_; obtain ⟨A57, c57, rfl, hl, hc⟩ := Kd.R_reads ho; have HL57 := Aside0.mk hl; have HC57 := Aside0.mk hc; clear ho hl hc; have HB_ := Aside0.mk (below_step HB.out hb); clear HB; have HB := HB_; clear HB_; clear hb)
   | ((with_reducible refine gate_callee (f := 23) rfl ?_); (try (refine gate_guard (by rfl) ?_; dsimp only)); refine goesL_ (some 58) rfl rfl Try.func23 (by kernel_rfl) rfl #[.int .i64 0, .slice A57 1 c57] rfl (by first | rfl | (go_simp; done) | (go_simp; rfl)) ?_; refine (inst23 0 A57 1 c57 _).mono ?_; rintro e w58 ⟨rfl, hb⟩; refine ⟨_, rfl, ?_⟩; have HB_ := Aside0.mk (below_step HB.out hb); clear HB; have HB := HB_; clear HB_; have n_ := Aside0.mk (Kd.C_below HC57.out hb); clear HC57; have HC57 := n_; clear n_; clear hb)
   | ((with_reducible refine gate_dst (N := 59) rfl ?_); (try (refine gate_guard (by rfl) ?_; dsimp only)); refine Kd.R_lit (kG k32 w58) _ 32 ?hg (N := 59) ?hd (xs := ([⟨0, [1]⟩] : List S32)) (inner := [.int .i64 0, .slice A57 1 c57]) (ok := fun _ => True) (okp := fun _ => True) ?hr ?hp (fun _ hk => hk) trivial (Below.refl _ _) (Nat.le_refl _) (by decide) ?_; (case hd => rfl); (case hg => rfl); (case hr => first | (go_simp; done) | (go_simp; rfl)); (case hp => exact (repsN_cons (x := (⟨0, [1]⟩ : S32)) (cs := [.int .i64 0, .slice A57 1 c57]) (k32_mkF _ _ _ HL57.out (F_all (Kd.heap_int _) HC57.out)) rfl (Reps.none _ _))); intro v59 w59 ho hb hg_ hnew_; clear hg_ hnew_; have hV := kG_V (b := 0) k32_heap ho hb; obtain ⟨A59, c59, rfl⟩ := Kd.V_slice hV; have HV59 := Aside0.mk hV; clear ho hV HC57; have HB_ := Aside0.mk (below_step HB.out hb); clear HB; have HB := HB_; clear HB_; clear hb)
   | ((with_reducible refine gate_callee (f := 12) rfl ?_); (try (refine gate_guard (by rfl) ?_; dsimp only)); refine goesL_ (some 60) rfl rfl Try.func12 (by kernel_rfl) rfl #[.slice none 0 0, .int .u8 0, .slice A59 1 c59] rfl (by first | rfl | (go_simp; done) | (go_simp; rfl)) ?_; refine (order_Sort.calls KK none 0 [] 0 (fun _ => True) A59 c59 [⟨0, [1]⟩] [⟨0, [1]⟩] _ (Kd.C_nil _ _) (Nat.le_refl _) HV59.out HSRT.out).mono ?_; rintro e w60 ⟨v60, rfl, hv, hb⟩; obtain ⟨A60, c60, rfl⟩ := Kd.V_slice hv; refine ⟨_, rfl, ?_⟩; clear hv HV59; have HB_ := Aside0.mk (below_step HB.out hb); clear HB; have HB := HB_; clear HB_; clear hb))
  go_ret
  exact ⟨rfl, HB.out⟩
def intarsialaw26_awake.f : Option Bool := some true
theorem awake_rounds : ∃ KK, order_Select.f KK [] 0 awE = some (1, [3, 1], true) ∧ order_Less.f KK [] 0 0 [3, 1] 0 [3] = some true ∧ order_Less.f KK [] 1 0 [2, 1] 0 [1, 9] = some true ∧ order_Less.f KK [] 0 0 [2, 1] 0 [1, 9] = some false ∧
    order_Recency.f [1, 0, 3] = some [3, 1] ∧ intarsiaref21_SameInts.f KK [3, 1] [3, 1] = some true ∧ order_Sort.f KK [] 0 [⟨0, [1]⟩] = some [⟨0, [1]⟩] := by
  obtain ⟨K1, h1⟩ := select_o_val [] okNil 0 awE (by unfold okEntries; decide) (by decide)
  obtain ⟨K2, h2⟩ := less_o_val [] okNil 0 ⟨0, [3, 1]⟩ ⟨0, [3]⟩ (by decide) (by decide)
  obtain ⟨K3, h3⟩ := less_o_val [] okNil 1 ⟨0, [2, 1]⟩ ⟨0, [1, 9]⟩ (by decide) (by decide)
  obtain ⟨K4, h4⟩ := less_o_val [] okNil 0 ⟨0, [2, 1]⟩ ⟨0, [1, 9]⟩ (by decide) (by decide)
  obtain ⟨K6, h6⟩ := same_val [3, 1] [3, 1] (by decide)
  obtain ⟨K7, h7⟩ := sort_o_val [] okNil 0 [⟨0, [1]⟩] (by unfold okInsts; decide) (by decide)
  refine ⟨K1 + K2 + K3 + K4 + K6 + K7, ?_, ?_, ?_, ?_, ?_, ?_, ?_⟩
  · rw [← aw_sel]; exact h1 _ (by omega)
  · rw [← aw_less1]; exact h2 _ (by omega)
  · rw [← aw_less2]; exact h3 _ (by omega)
  · rw [← aw_less3]; exact h4 _ (by omega)
  · rw [order_Recency.f, if_pos (by decide), rc103]
  · exact h6 _ (by omega)
  · exact h7 _ (by omega)
theorem intarsialaw26_awake.calls (r : Bool) (w : World) (h : intarsialaw26_awake.f = some r) : Calls Try.prog 8 #[] w fun e w' => e = .returned (.bool r) ∧ Below w.heap.size w w' := by
  obtain rfl := Option.some.inj h
  obtain ⟨KK, h1, h2, h3, h4, h5, h6, h7⟩ := awake_rounds
  exact awake8 KK w h1 h2 h3 h4 h5 h6 h7
end Go.Proofs.Ytjkdfjkaeoklmaa.Q
