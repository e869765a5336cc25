import Derived.Test.YtjkdfjkaeoklmaaV2
import Derived.Test.YtjkdfjkaeoklmaaV5
import Derived.Test.YtjkdfjkaeoklmaaV4
import Derived.Deep.RegionLaw
import Derived.WalkSpells
import Derived.Deep.QuietTactic
set_option linter.unusedVariables false
set_option linter.unusedSimpArgs false
-- Made by this session's wip/tools/myprint.py (the kit's print.py, with this session's hooks) out of the translation; Lean checks it.
namespace Go.Proofs.Ytjkdfjkaeoklmaa.Q
open Go.RowKit Go.Proofs.YtjkdfjkaeoklmaaW.PrintWords Go.Proofs.YtjkdfjkaeoklmaaW.PrintLast Go.Proofs.YtjkdfjkaeoklmaaW.PrintMore
attribute [local go_sem] max2_int min2_int max_two min_two max_three min_three max_four min_four   -- for this text's walks alone
set_option linter.unusedVariables false
set_option linter.unusedSimpArgs false

/-! ### intarsiaref26_Less: function 10 -/
def intarsiaref26_Less.j0 : Nat → List (S45) → Bool → Int → List Int → Int → List Int → Option (Bool)
 | 0, _, _, _, _, _, _ => none
 | k + 1, x0, x22, x319000, x319001, x320000, x320001 => if x22 = true then ((intarsiaref26_first.f x319001).bind fun t322 => ((intarsiaref26_first.f x320001).bind fun t323 => (some (decide (t322 > t323))))) else ((intarsiaref26_Recency.f x319001).bind fun t324 => ((intarsiaref26_Recency.f x320001).bind fun t327 => ((intarsiaref26_recent.f k t324 t327).bind fun t330 => (if t330 = 0 then ((intarsiaref26_strength.f k x0 x319000).bind fun t331 => ((intarsiaref26_strength.f k x0 x320000).bind fun t332 => (if t331 = t332 then (if x319000 = x320000 then ((intarsiaref26_ahead.f k x319001 x320001).bind fun t333 => (some (decide (t333 > 0)))) else (some (decide (x319000 < x320000)))) else (some (decide (t331 > t332)))))) else (some (decide (t330 > 0)))))))
def intarsiaref26_Less.f (k : Nat) (l0 : List (S45)) (a1 : Int) (a2_0 : Int) (l2_1 : List Int) (a3_0 : Int) (l3_1 : List Int) : Option (Bool) := if a1 = 1 then ((intarsiaref26_first.f l2_1).bind fun t320 => ((intarsiaref26_first.f l3_1).bind fun t321 => (intarsiaref26_Less.j0 k l0 (t320 != t321) a2_0 l2_1 a3_0 l3_1))) else (intarsiaref26_Less.j0 k l0 false a2_0 l2_1 a3_0 l3_1)
def intarsiaref26_Less.T1 : Bool × List (List Nat × List Nat) := (true, [([], []), ([0], [0]), ([1], [1]), ([2], [2]), ([3, 2], [2, 3]), ([4, 2, 2], [2, 4]), ([2], [2]), ([6, 2], [2, 6]), ([7, 5, 2], [2, 7]), ([5, 8, 2], [2, 5, 8]), ([2, 9], [2, 9])])
def intarsiaref26_Less.B1 : List Nat := [0, 1, 3, 7, 15, 31, 7, 71, 255, 511, 1023]
theorem intarsiaref26_Less.tab1 : rtab .any (opsOf Try.f10 1) = intarsiaref26_Less.T1 := by kernel_rfl
theorem intarsiaref26_Less.bits1 : waitsOk intarsiaref26_Less.T1.2 intarsiaref26_Less.B1 = true := by kernel_rfl
def intarsiaref26_Less.T2 : Bool × List (List Nat × List Nat) := (true, [([], []), ([0], [0]), ([1], [1]), ([], []), ([3], [3]), ([4, 2], [4]), ([2, 5], [2, 5]), ([6, 5, 0, 1, 2, 3, 4, 5, 6], [6])])
def intarsiaref26_Less.B2 : List Nat := [0, 1, 3, 0, 8, 31, 63, 127]
theorem intarsiaref26_Less.tab2 : rtab .any (opsOf Try.f10 2) = intarsiaref26_Less.T2 := by kernel_rfl
theorem intarsiaref26_Less.bits2 : waitsOk intarsiaref26_Less.T2.2 intarsiaref26_Less.B2 = true := by kernel_rfl
def intarsiaref26_Less.T3 : Bool × List (List Nat × List Nat) := (true, [([], []), ([0], [0]), ([1], [1]), ([], []), ([3], [3]), ([4, 2], [4]), ([2, 5, 5], [2, 5]), ([6, 6, 0, 1, 2, 3, 4, 5, 6], [6])])
def intarsiaref26_Less.B3 : List Nat := [0, 1, 3, 0, 8, 31, 63, 127]
theorem intarsiaref26_Less.tab3 : rtab .any (opsOf Try.f10 3) = intarsiaref26_Less.T3 := by kernel_rfl
theorem intarsiaref26_Less.bits3 : waitsOk intarsiaref26_Less.T3.2 intarsiaref26_Less.B3 = true := by kernel_rfl
def intarsiaref26_Less.T6 : Bool × List (List Nat × List Nat) := (true, [([], []), ([], []), ([1], [1]), ([0, 2], [0, 2]), ([], []), ([], []), ([5], [5]), ([4, 6, 3], [4, 6]), ([3, 7, 0, 1, 2, 3], [3]), ([7, 8, 0, 1, 2, 3, 4, 5, 6, 7, 8], [7])])
def intarsiaref26_Less.B6 : List Nat := [0, 0, 2, 7, 0, 0, 32, 127, 255, 511]
theorem intarsiaref26_Less.tab6 : rtab .any (opsOf Try.f10 6) = intarsiaref26_Less.T6 := by kernel_rfl
theorem intarsiaref26_Less.bits6 : waitsOk intarsiaref26_Less.T6.2 intarsiaref26_Less.B6 = true := by kernel_rfl
set_option maxHeartbeats 8000000 in
set_option maxRecDepth 100000 in
theorem intarsiaref26_Less.calls (k : Nat) (A0 : Option Addr) (c0 : Nat) (l0 : List (S45)) (a1 : Int) (a2_0 : Int) (A2_1 : Option Addr) (c2_1 : Nat) (l2_1 : List Int) (a3_0 : Int) (A3_1 : Option Addr) (c3_1 : Nat) (l3_1 : List Int) (r : Bool) (w : World) (hr0 : Kd.C k45 w A0 l0.length l0) (hc0 : l0.length ≤ c0) (hr2_1 : Kd.C (Kd.int .i64) w A2_1 l2_1.length l2_1) (hc2_1 : l2_1.length ≤ c2_1) (hr3_1 : Kd.C (Kd.int .i64) w A3_1 l3_1.length l3_1) (hc3_1 : l3_1.length ≤ c3_1) (h : intarsiaref26_Less.f k l0 a1 a2_0 l2_1 a3_0 l3_1 = some r) :
  Calls Try.prog 10 #[.slice A0 l0.length c0, .int .u8 a1, .agg #[.int .i64 a2_0, .slice A2_1 l2_1.length c2_1], .agg #[.int .i64 a3_0, .slice A3_1 l3_1.length c3_1]] w fun e w' => e = .returned (.bool r) ∧ Below w.heap.size w w' := by
 have hu32 := Try.underlying32
 have HR0 := Aside0.mk hr0
 have HC0 := Aside0.mk hc0
 clear hr0 hc0
 have HR2_1 := Aside0.mk hr2_1
 have HC2_1 := Aside0.mk hc2_1
 clear hr2_1 hc2_1
 have HR3_1 := Aside0.mk hr3_1
 have HC3_1 := Aside0.mk hc3_1
 clear hr3_1 hc3_1
 have HB := Aside0.mk (Below.refl w.heap.size w)
 have H : (if a1 = 1 then ((intarsiaref26_first.f l2_1).bind fun t320 => ((intarsiaref26_first.f l3_1).bind fun t321 => (intarsiaref26_Less.j0 k l0 (t320 != t321) a2_0 l2_1 a3_0 l3_1))) else (intarsiaref26_Less.j0 k l0 false a2_0 l2_1 a3_0 l3_1)) = some r := h
 clear h
 have HC5 := Aside0.mk H
 clear H
 go_enter Try.func10, Try.ntmps10
 go_upto_region 1 with (first | ((with_reducible refine gate_dst (N := 6) rfl ?_); refine box_event ?hg (N := 6) ?hd (cs := #[.int .i64 a2_0, .slice A2_1 l2_1.length c2_1]) (t := 32) ?hr ?_; (case hd => rfl); (case hg => rfl); (case hr => first | (go_simp; done) | (go_simp; rfl)); intro gb318 hg w6 hbox hb; have n0_ := Aside0.mk (below_step (by repeat (first | (with_reducible first | exact HB.out | apply below_alloc | apply pw_below_drewN | apply below_drew1) | exact HB.out)) hb); have n1_ := Aside0.mk (hbox); have n2_ := Aside0.mk ((by rw [hg]; exact (below_size (by repeat (first | (with_reducible first | exact HB.out | apply below_alloc | apply pw_below_drewN | apply below_drew1) | exact HB.out))) : w.heap.size ≤ gb318)); have n3_ := Aside0.mk ((by rw [hg]; exact (below_size (by repeat (first | (with_reducible first | exact HB.out | apply below_alloc | apply pw_below_drewN | apply below_drew1) | exact HB.out))) : w.heap.size ≤ gb318)); clear HB; have HB := n0_; have BK318 := n1_; have GW318 := n2_; have GE318 := n3_; clear n0_ n1_ n2_ n3_; clear hb hbox hg) | ((with_reducible refine gate_dst (N := 7) rfl ?_); refine box_event ?hg (N := 7) ?hd (cs := #[.int .i64 a3_0, .slice A3_1 l3_1.length c3_1]) (t := 32) ?hr ?_; (case hd => rfl); (case hg => rfl); (case hr => first | (go_simp; done) | (go_simp; rfl)); intro gb319 hg w7 hbox hb; have n0_ := Aside0.mk (blk_below (g := gb318) (o := .cells #[.int .i64 a2_0, .slice A2_1 l2_1.length c2_1] 32 (0, 0)) (by (with_reducible repeat (first | refine blk_drewN ?_ _ | refine blk_drew ?_ | refine blk_alloc ?_ _)); exact BK318.out) hb); have n1_ := Aside0.mk (below_step (by repeat (first | (with_reducible first | exact HB.out | apply below_alloc | apply pw_below_drewN | apply below_drew1 | refine below_set ?_ GE318.out) | exact HB.out)) hb); have n2_ := Aside0.mk (hbox); have n3_ := Aside0.mk ((by rw [hg]; exact (below_size (by repeat (first | (with_reducible first | exact HB.out | apply below_alloc | apply pw_below_drewN | apply below_drew1 | refine below_set ?_ GE318.out) | exact HB.out))) : w.heap.size ≤ gb319)); have n4_ := Aside0.mk ((by rw [hg]; exact (below_size (by repeat (first | (with_reducible first | exact HB.out | apply below_alloc | apply pw_below_drewN | apply below_drew1 | refine below_set ?_ GE318.out) | exact HB.out))) : w.heap.size ≤ gb319)); have n5_ := Aside0.mk ((by rw [hg]; exact Nat.ne_of_lt (blk_lt (g := gb318) (o := .cells #[.int .i64 a2_0, .slice A2_1 l2_1.length c2_1] 32 (0, 0)) (by (with_reducible repeat (first | refine blk_drewN ?_ _ | refine blk_drew ?_ | refine blk_alloc ?_ _)); exact BK318.out)) : gb318 ≠ gb319)); have n6_ := Aside0.mk ((by rw [hg]; exact Nat.ne_of_gt (blk_lt (g := gb318) (o := .cells #[.int .i64 a2_0, .slice A2_1 l2_1.length c2_1] 32 (0, 0)) (by (with_reducible repeat (first | refine blk_drewN ?_ _ | refine blk_drew ?_ | refine blk_alloc ?_ _)); exact BK318.out)) : gb319 ≠ gb318)); clear BK318; clear HB; have BK318 := n0_; have HB := n1_; have BK319 := n2_; have GW319 := n3_; have GE319 := n4_; have NB318_319 := n5_; have NB319_318 := n6_; clear n0_ n1_ n2_ n3_ n4_ n5_ n6_; clear hb hbox hg))
 (try simp only [Act.put, List.setIfInBounds_toArray, List.set_cons_zero, List.set_cons_succ])
 go_cut [22] (fun v22 wc => ∃ (kq : Nat) (x22_4 : Bool), v22 = .bool x22_4 ∧ Aside0 (intarsiaref26_Less.j0 kq l0 x22_4 a2_0 l2_1 a3_0 l3_1 = some r) ∧ Aside0 (kq ≤ k) ∧ Aside0 (wc.heap[gb318]? = some (.cells #[.int .i64 a2_0, (.slice A2_1 l2_1.length c2_1)] 32 (0, 0))) ∧ Aside0 (wc.heap[gb319]? = some (.cells #[.int .i64 a3_0, (.slice A3_1 l3_1.length c3_1)] 32 (0, 0))) ∧ Aside0 (Below w.heap.size w wc))
 case first =>
  have H := HC5.out
  clear HC5
  by_cases c8 : a1 = 1
  ·rw [if_pos c8] at H
   have c8b0 : (a1 == 1) = true := beq_iff_eq.mpr c8
   have c8b1 : (a1 != 1) = false := bne_eq_false_iff_eq.mpr c8
   clear c8
   (first | rw [c8b0] | (simp only [i64_w, i32_w]; rw [c8b0]) | skip)
   replace H := Option.bind_eq_some_iff.mp H
   obtain ⟨t320, A90, H⟩ := H
   replace H : ((intarsiaref26_first.f l3_1).bind fun t321 => (intarsiaref26_Less.j0 k l0 (t320 != t321) a2_0 l2_1 a3_0 l3_1)) = some r := H
   have A9 := Aside0.mk A90
   clear A90
   replace H := Option.bind_eq_some_iff.mp H
   obtain ⟨t321, A100, H⟩ := H
   replace H : (intarsiaref26_Less.j0 k l0 (t320 != t321) a2_0 l2_1 a3_0 l3_1) = some r := H
   have A10 := Aside0.mk A100
   clear A100
   have H' := Aside0.mk H
   clear H
   try go_wp2
   have n0_ := Aside0.mk (blk_drew BK318.out)
   have n1_ := Aside0.mk (blk_drew BK319.out)
   have n2_ := Aside0.mk (below_drew1 HB.out)
   clear BK318
   clear BK319
   clear HB
   have BK318 := n0_
   have BK319 := n1_
   have HB := n2_
   clear n0_ n1_ n2_
   refine start_ (n := 11) (S := fun w' => w'.cell? ⟨gb318, 0, none⟩ = some (.int .i64 a2_0) ∧ w'.cell? ⟨gb318, 1, none⟩ = some (.slice A2_1 l2_1.length c2_1) ∧ w'.cell? ⟨gb319, 0, none⟩ = some (.int .i64 a3_0) ∧ w'.cell? ⟨gb319, 1, none⟩ = some (.slice A3_1 l3_1.length c3_1)) (ds := []) #[false, false, false, false, false, false, false, false, false, false, false] (by kernel_rfl) rfl rfl ⟨(blk_cell BK318.out 0).trans rfl, (blk_cell BK318.out 1).trans rfl, (blk_cell BK319.out 0).trans rfl, (blk_cell BK319.out 1).trans rfl⟩ (fun hHeld => ?_); refine with_tabW intarsiaref26_Less.tab1 intarsiaref26_Less.bits1 (fun HT_ HW_ => ?_)
   generalize w7.drew = w11 at BK318 BK319 HB hHeld ⊢
   refine pure_ (i := 0) (N := some 12) (v := ?_) (a' := ?_) #[true, false, false, false, false, false, false, false, false, false, false] rfl rfl (any_of HT_.out (by kernel_rfl)) (fun _ _ _ h => h) (Or.inl ⟨by rfl, ?_⟩) ?_ ?_
   rotate_left
   ·intro w'
    go_simp
    with_reducible rfl
   rotate_left
   ·simp only [Act.put, List.setIfInBounds_toArray, List.set_cons_zero, List.set_cons_succ, i64_w, i32_w]
    rfl
   refine pure_ (i := 1) (N := some 13) (v := ?_) (a' := ?_) #[true, true, false, false, false, false, false, false, false, false, false] rfl rfl (any_of HT_.out (by kernel_rfl)) (fun _ _ _ h => h) (Or.inl ⟨by rfl, ?_⟩) ?_ ?_
   rotate_left
   ·intro w'
    go_simp
    with_reducible rfl
   rotate_left
   ·simp only [Act.put, List.setIfInBounds_toArray, List.set_cons_zero, List.set_cons_succ, i64_w, i32_w]
    rfl
   refine pure_ (i := 2) (N := some 14) (v := ?_) (a' := ?_) #[true, true, true, false, false, false, false, false, false, false, false] rfl rfl (any_of HT_.out (by kernel_rfl)) (fun _ _ _ h => h) (Or.inl ⟨by rfl, ?_⟩) ?_ ?_
   rotate_left
   ·intro w'
    go_simp
    with_reducible rfl
   rotate_left
   ·simp only [Act.put, List.setIfInBounds_toArray, List.set_cons_zero, List.set_cons_succ, i64_w, i32_w]
    rfl
   refine pure_ (i := 3) (N := some 15) (v := ?_) (a' := ?_) #[true, true, true, true, false, false, false, false, false, false, false] rfl rfl (any_of HT_.out (by kernel_rfl)) (fun _ _ _ h => h) (Or.inl ⟨by rfl, ?_⟩) ?_ ?_
   rotate_left
   ·intro w'
    go_simp
    with_reducible rfl
   rotate_left
   ·simp only [Act.put, List.setIfInBounds_toArray, List.set_cons_zero, List.set_cons_succ, i64_w, i32_w]
    rfl
   refine pure_ (i := 6) (N := some 18) (v := ?_) (a' := ?_) #[true, true, true, true, false, false, true, false, false, false, false] rfl rfl (any_of HT_.out (by kernel_rfl)) (fun _ _ _ h => h) (Or.inl ⟨by rfl, ?_⟩) ?_ ?_
   rotate_left
   ·intro w'
    go_simp
    with_reducible rfl
   rotate_left
   ·simp only [Act.put, List.setIfInBounds_toArray, List.set_cons_zero, List.set_cons_succ, i64_w, i32_w]
    rfl
   refine take_ (i := 4) (N := some 16) (v := ?_) (a' := ?_) #[true, true, true, true, true, false, true, false, false, false, false] rfl rfl (take_ofW HT_.out HW_.out (by kernel_rfl)) (fun _ _ _ h => h) (Or.inl ⟨by rfl, ?_⟩) hHeld ?_ ?_
   rotate_left
   ·rintro w' ⟨s0, s1, s2, s3⟩
    go_simp
    with_reducible rfl
   rotate_left
   ·simp only [Act.put, List.setIfInBounds_toArray, List.set_cons_zero, List.set_cons_succ, i64_w, i32_w]
    rfl
   refine take_ (i := 7) (N := some 19) (v := ?_) (a' := ?_) #[true, true, true, true, true, false, true, true, false, false, false] rfl rfl (take_ofW HT_.out HW_.out (by kernel_rfl)) (fun _ _ _ h => h) (Or.inl ⟨by rfl, ?_⟩) hHeld ?_ ?_
   rotate_left
   ·rintro w' ⟨s0, s1, s2, s3⟩
    go_simp
    with_reducible rfl
   rotate_left
   ·simp only [Act.put, List.setIfInBounds_toArray, List.set_cons_zero, List.set_cons_succ, i64_w, i32_w]
    rfl
   refine one_ (i := 5) (N := some 17) #[true, true, true, true, true, true, true, true, false, false, false] rfl rfl (one_of HT_.out (by kernel_rfl)) (by decide) (fun K hK => ?_)
   refine goes_ Try.func25 (by kernel_rfl) rfl #[.slice A2_1 l2_1.length c2_1] (by rfl) rfl rfl (by (try simp only [List.map_toArray, List.map_cons, List.map_nil]); first | done | rfl | (simp only [List.length_drop, List.length_take]; rfl)) ?_
   with_reducible refine (intarsiaref26_first.calls _ _ l2_1 t320 _ ?side1 ?side2 A9.out).mono ?_
   (case side1 => repeat (first | exact (Kd.C_below HR2_1.out HB.out) | (with_reducible refine Kd.C_alloc ?_ _) | (with_reducible refine Kd.C_drewN ?_ _) | (with_reducible refine Kd.C_drew ?_)))
   (case side2 => exact HC2_1.out)
   rintro e w' ⟨rfl, ⟨nd, rfl⟩⟩
   refine ⟨_, rfl, ?_⟩
   refine hK.out _ _ ⟨(blk_cell BK318.out 0).trans rfl, (blk_cell BK318.out 1).trans rfl, (blk_cell BK319.out 0).trans rfl, (blk_cell BK319.out 1).trans rfl⟩ (fun hHeld => ?_)
   clear hK K
   refine norm_ (a' := ?_) ?_ ?_
   rotate_left
   ·show Act.put _ (some 17) _ = _
    simp only [Act.put, List.setIfInBounds_toArray, List.set_cons_zero, List.set_cons_succ, i64_w, i32_w]
    rfl
   refine one_ (i := 8) (N := some 20) #[true, true, true, true, true, true, true, true, true, false, false] rfl rfl (one_of HT_.out (by kernel_rfl)) (by decide) (fun K hK => ?_)
   refine goes_ Try.func25 (by kernel_rfl) rfl #[.slice A3_1 l3_1.length c3_1] (by rfl) rfl rfl (by (try simp only [List.map_toArray, List.map_cons, List.map_nil]); first | done | rfl | (simp only [List.length_drop, List.length_take]; rfl)) ?_
   with_reducible refine (intarsiaref26_first.calls _ _ l3_1 t321 _ ?side1 ?side2 A10.out).mono ?_
   (case side1 => repeat (first | exact (Kd.C_below HR3_1.out (by repeat (first | (with_reducible first | exact HB.out | apply below_alloc | apply pw_below_drewN | apply below_drew1 | refine below_set ?_ GE318.out | refine below_set ?_ GE319.out) | exact HB.out))) | (with_reducible refine Kd.C_alloc ?_ _) | (with_reducible refine Kd.C_drewN ?_ _) | (with_reducible refine Kd.C_drew ?_)))
   (case side2 => exact HC3_1.out)
   rintro e w' ⟨rfl, ⟨nd, rfl⟩⟩
   refine ⟨_, rfl, ?_⟩
   refine hK.out _ _ ⟨(blk_cell BK318.out 0).trans rfl, (blk_cell BK318.out 1).trans rfl, (blk_cell BK319.out 0).trans rfl, (blk_cell BK319.out 1).trans rfl⟩ (fun hHeld => ?_)
   clear hK K
   refine norm_ (a' := ?_) ?_ ?_
   rotate_left
   ·show Act.put _ (some 20) _ = _
    simp only [Act.put, List.setIfInBounds_toArray, List.set_cons_zero, List.set_cons_succ, i64_w, i32_w]
    rfl
   refine pure_ (i := 9) (N := some 21) (v := ?_) (a' := ?_) #[true, true, true, true, true, true, true, true, true, true, false] rfl rfl (any_of HT_.out (by kernel_rfl)) (fun _ _ _ h => h) (Or.inl ⟨by rfl, ?_⟩) ?_ ?_
   rotate_left
   ·intro w'
    go_simp
    with_reducible rfl
   rotate_left
   ·simp only [Act.put, List.setIfInBounds_toArray, List.set_cons_zero, List.set_cons_succ, i64_w, i32_w]
    rfl
   refine pure_ (i := 10) (N := some 22) (v := ?_) (a' := ?_) #[true, true, true, true, true, true, true, true, true, true, true] rfl rfl (any_of HT_.out (by kernel_rfl)) (fun _ _ _ h => h) (Or.inl ⟨by rfl, ?_⟩) ?_ ?_
   rotate_left
   ·intro w'
    go_simp
    with_reducible rfl
   rotate_left
   ·simp only [Act.put, List.setIfInBounds_toArray, List.set_cons_zero, List.set_cons_succ, i64_w, i32_w]
    rfl
   refine done_ (done_of HT_.out (by kernel_rfl)) ?_
   try go_wp2
   go_meet
   case rel => exact ⟨_, ((t320 != t321)), (by first | rfl | (simp; done) | (simp [*]; done)), H', ⟨by first | omega | exact Nat.le_refl _⟩, ⟨by (with_reducible repeat (first | refine blk_drewN ?_ _ | refine blk_drew ?_ | refine blk_alloc ?_ _)); exact BK318.out⟩, ⟨by (with_reducible repeat (first | refine blk_drewN ?_ _ | refine blk_drew ?_ | refine blk_alloc ?_ _)); exact BK319.out⟩, ⟨by repeat (first | (with_reducible first | exact HB.out | apply below_alloc | apply pw_below_drewN | apply below_drew1 | refine below_set ?_ GE318.out | refine below_set ?_ GE319.out) | exact HB.out)⟩⟩
  ·rw [if_neg c8] at H
   have c8b0 : (a1 == 1) = false := beq_eq_false_iff_ne.mpr c8
   have c8b1 : (a1 != 1) = true := bne_iff_ne.mpr c8
   (first | rw [c8b0] | (simp only [i64_w, i32_w]; rw [c8b0]) | skip)
   have H' := Aside0.mk H
   clear H
   try go_wp2
   have n0_ := Aside0.mk (blk_drew BK318.out)
   have n1_ := Aside0.mk (blk_drew BK319.out)
   have n2_ := Aside0.mk (below_drew1 HB.out)
   clear BK318
   clear BK319
   clear HB
   have BK318 := n0_
   have BK319 := n1_
   have HB := n2_
   clear n0_ n1_ n2_
   refine start_ (n := 11) (S := fun w' => True) (ds := []) #[false, false, false, false, false, false, false, false, false, false, false] (by kernel_rfl) rfl rfl trivial (fun hHeld => ?_); refine with_tabW intarsiaref26_Less.tab1 intarsiaref26_Less.bits1 (fun HT_ HW_ => ?_)
   generalize w7.drew = w12 at BK318 BK319 HB hHeld ⊢
   refine pure_ (i := 0) (N := some 12) (v := ?_) (a' := ?_) #[true, false, false, false, false, false, false, false, false, false, false] rfl rfl (any_of HT_.out (by kernel_rfl)) (fun _ _ _ h => h) (Or.inl ⟨by rfl, ?_⟩) ?_ ?_
   rotate_left
   ·intro w'
    go_simp
    with_reducible rfl
   rotate_left
   ·simp only [Act.put, List.setIfInBounds_toArray, List.set_cons_zero, List.set_cons_succ, i64_w, i32_w]
    rfl
   refine pure_ (i := 1) (N := some 13) (v := ?_) (a' := ?_) #[true, true, false, false, false, false, false, false, false, false, false] rfl rfl (any_of HT_.out (by kernel_rfl)) (fun _ _ _ h => h) (Or.inl ⟨by rfl, ?_⟩) ?_ ?_
   rotate_left
   ·intro w'
    go_simp
    with_reducible rfl
   rotate_left
   ·simp only [Act.put, List.setIfInBounds_toArray, List.set_cons_zero, List.set_cons_succ, i64_w, i32_w]
    rfl
   refine pure_ (i := 2) (N := some 14) (v := ?_) (a' := ?_) #[true, true, true, false, false, false, false, false, false, false, false] rfl rfl (any_of HT_.out (by kernel_rfl)) (fun _ _ _ h => h) (Or.inl ⟨by rfl, ?_⟩) ?_ ?_
   rotate_left
   ·intro w'
    go_simp
    with_reducible rfl
   rotate_left
   ·simp only [Act.put, List.setIfInBounds_toArray, List.set_cons_zero, List.set_cons_succ, i64_w, i32_w]
    rfl
   refine pure_ (i := 3) (N := some 15) (v := undef) (a' := ?_) #[true, true, true, true, false, false, false, false, false, false, false] rfl rfl (any_of HT_.out (by kernel_rfl)) (fun _ _ _ h => h) (Or.inr ⟨by rfl, rfl⟩) ?_ ?_
   rotate_left
   ·simp only [Act.put, List.setIfInBounds_toArray, List.set_cons_zero, List.set_cons_succ, i64_w, i32_w]
    rfl
   refine pure_ (i := 4) (N := some 16) (v := undef) (a' := ?_) #[true, true, true, true, true, false, false, false, false, false, false] rfl rfl (any_of HT_.out (by kernel_rfl)) (fun _ _ _ h => h) (Or.inr ⟨by rfl, rfl⟩) ?_ ?_
   rotate_left
   ·simp only [Act.put, List.setIfInBounds_toArray, List.set_cons_zero, List.set_cons_succ, i64_w, i32_w]
    rfl
   refine pure_ (i := 5) (N := some 17) (v := undef) (a' := ?_) #[true, true, true, true, true, true, false, false, false, false, false] rfl rfl (any_of HT_.out (by kernel_rfl)) (fun _ _ _ h => h) (Or.inr ⟨by rfl, rfl⟩) ?_ ?_
   rotate_left
   ·simp only [Act.put, List.setIfInBounds_toArray, List.set_cons_zero, List.set_cons_succ, i64_w, i32_w]
    rfl
   refine pure_ (i := 6) (N := some 18) (v := undef) (a' := ?_) #[true, true, true, true, true, true, true, false, false, false, false] rfl rfl (any_of HT_.out (by kernel_rfl)) (fun _ _ _ h => h) (Or.inr ⟨by rfl, rfl⟩) ?_ ?_
   rotate_left
   ·simp only [Act.put, List.setIfInBounds_toArray, List.set_cons_zero, List.set_cons_succ, i64_w, i32_w]
    rfl
   refine pure_ (i := 7) (N := some 19) (v := undef) (a' := ?_) #[true, true, true, true, true, true, true, true, false, false, false] rfl rfl (any_of HT_.out (by kernel_rfl)) (fun _ _ _ h => h) (Or.inr ⟨by rfl, rfl⟩) ?_ ?_
   rotate_left
   ·simp only [Act.put, List.setIfInBounds_toArray, List.set_cons_zero, List.set_cons_succ, i64_w, i32_w]
    rfl
   refine pure_ (i := 8) (N := some 20) (v := undef) (a' := ?_) #[true, true, true, true, true, true, true, true, true, false, false] rfl rfl (any_of HT_.out (by kernel_rfl)) (fun _ _ _ h => h) (Or.inr ⟨by rfl, rfl⟩) ?_ ?_
   rotate_left
   ·simp only [Act.put, List.setIfInBounds_toArray, List.set_cons_zero, List.set_cons_succ, i64_w, i32_w]
    rfl
   refine pure_ (i := 9) (N := some 21) (v := undef) (a' := ?_) #[true, true, true, true, true, true, true, true, true, true, false] rfl rfl (any_of HT_.out (by kernel_rfl)) (fun _ _ _ h => h) (Or.inr ⟨by rfl, rfl⟩) ?_ ?_
   rotate_left
   ·simp only [Act.put, List.setIfInBounds_toArray, List.set_cons_zero, List.set_cons_succ, i64_w, i32_w]
    rfl
   refine pure_ (i := 10) (N := some 22) (v := ?_) (a' := ?_) #[true, true, true, true, true, true, true, true, true, true, true] rfl rfl (any_of HT_.out (by kernel_rfl)) (fun _ _ _ h => h) (Or.inl ⟨by rfl, ?_⟩) ?_ ?_
   rotate_left
   ·intro w'
    go_simp
    with_reducible rfl
   rotate_left
   ·simp only [Act.put, List.setIfInBounds_toArray, List.set_cons_zero, List.set_cons_succ, i64_w, i32_w]
    rfl
   refine done_ (done_of HT_.out (by kernel_rfl)) ?_
   try go_wp2
   go_meet
   case rel => exact ⟨_, (false), (by first | rfl | (simp; done) | (simp [*]; done)), H', ⟨by first | omega | exact Nat.le_refl _⟩, ⟨by (with_reducible repeat (first | refine blk_drewN ?_ _ | refine blk_drew ?_ | refine blk_alloc ?_ _)); exact BK318.out⟩, ⟨by (with_reducible repeat (first | refine blk_drewN ?_ _ | refine blk_drew ?_ | refine blk_alloc ?_ _)); exact BK319.out⟩, ⟨by repeat (first | (with_reducible first | exact HB.out | apply below_alloc | apply pw_below_drewN | apply below_drew1 | refine below_set ?_ GE318.out | refine below_set ?_ GE319.out) | exact HB.out)⟩⟩
 case rest =>
  clear HC5
  try clear c1
  try clear c2
  try clear p2
  try clear c3
  try clear c8
  try clear c8b0
  try clear c8b1
  try clear c10
  obtain ⟨kq, x22_4, rfl, HA, HJ4, BK318, BK319, HB⟩ := hcut
  cases kq with
  | zero => exact absurd HA.out (by simp [intarsiaref26_Less.j0])
  | succ kj4 =>
   have H := HA.out
   clear HA
   simp only [intarsiaref26_Less.j0] at H
   by_cases c13 : x22_4 = true
   ·subst c13
    have H1 : ((intarsiaref26_first.f l2_1).bind fun t322 => ((intarsiaref26_first.f l3_1).bind fun t323 => (some (decide (t322 > t323))))) = some r := by rw [if_pos rfl] at H; exact H
    clear H
    have H := H1
    clear H1
    replace H := Option.bind_eq_some_iff.mp H
    obtain ⟨t322, A140, H⟩ := H
    replace H : ((intarsiaref26_first.f l3_1).bind fun t323 => (some (decide (t322 > t323)))) = some r := H
    have A14 := Aside0.mk A140
    clear A140
    replace H := Option.bind_eq_some_iff.mp H
    obtain ⟨t323, A150, H⟩ := H
    replace H : (some (decide (t322 > t323))) = some r := H
    have A15 := Aside0.mk A150
    clear A150
    obtain rfl := Option.some.inj H
    try go_wp2
    have n0_ := Aside0.mk (blk_drew BK318.out)
    have n1_ := Aside0.mk (blk_drew BK319.out)
    have n2_ := Aside0.mk (below_drew1 HB.out)
    clear BK318
    clear BK319
    clear HB
    have BK318 := n0_
    have BK319 := n1_
    have HB := n2_
    clear n0_ n1_ n2_
    refine start_ (n := 8) (S := fun w' => w'.cell? ⟨gb318, 0, none⟩ = some (.int .i64 a2_0) ∧ w'.cell? ⟨gb318, 1, none⟩ = some (.slice A2_1 l2_1.length c2_1) ∧ w'.cell? ⟨gb319, 0, none⟩ = some (.int .i64 a3_0) ∧ w'.cell? ⟨gb319, 1, none⟩ = some (.slice A3_1 l3_1.length c3_1)) (ds := []) #[false, false, false, false, false, false, false, false] (by kernel_rfl) rfl rfl ⟨(blk_cell BK318.out 0).trans rfl, (blk_cell BK318.out 1).trans rfl, (blk_cell BK319.out 0).trans rfl, (blk_cell BK319.out 1).trans rfl⟩ (fun hHeld => ?_); refine with_tabW intarsiaref26_Less.tab2 intarsiaref26_Less.bits2 (fun HT_ HW_ => ?_)
    generalize wc.drew = w16 at BK318 BK319 HB hHeld ⊢
    refine pure_ (i := 0) (N := some 23) (v := ?_) (a' := ?_) #[true, false, false, false, false, false, false, false] rfl rfl (any_of HT_.out (by kernel_rfl)) (fun _ _ _ h => h) (Or.inl ⟨by rfl, ?_⟩) ?_ ?_
    rotate_left
    ·intro w'
     go_simp
     with_reducible rfl
    rotate_left
    ·simp only [Act.put, List.setIfInBounds_toArray, List.set_cons_zero, List.set_cons_succ, i64_w, i32_w]
     rfl
    refine pure_ (i := 3) (N := some 26) (v := ?_) (a' := ?_) #[true, false, false, true, false, false, false, false] rfl rfl (any_of HT_.out (by kernel_rfl)) (fun _ _ _ h => h) (Or.inl ⟨by rfl, ?_⟩) ?_ ?_
    rotate_left
    ·intro w'
     go_simp
     with_reducible rfl
    rotate_left
    ·simp only [Act.put, List.setIfInBounds_toArray, List.set_cons_zero, List.set_cons_succ, i64_w, i32_w]
     rfl
    refine take_ (i := 1) (N := some 24) (v := ?_) (a' := ?_) #[true, true, false, true, false, false, false, false] rfl rfl (take_ofW HT_.out HW_.out (by kernel_rfl)) (fun _ _ _ h => h) (Or.inl ⟨by rfl, ?_⟩) hHeld ?_ ?_
    rotate_left
    ·rintro w' ⟨s0, s1, s2, s3⟩
     go_simp
     with_reducible rfl
    rotate_left
    ·simp only [Act.put, List.setIfInBounds_toArray, List.set_cons_zero, List.set_cons_succ, i64_w, i32_w]
     rfl
    refine take_ (i := 4) (N := some 27) (v := ?_) (a' := ?_) #[true, true, false, true, true, false, false, false] rfl rfl (take_ofW HT_.out HW_.out (by kernel_rfl)) (fun _ _ _ h => h) (Or.inl ⟨by rfl, ?_⟩) hHeld ?_ ?_
    rotate_left
    ·rintro w' ⟨s0, s1, s2, s3⟩
     go_simp
     with_reducible rfl
    rotate_left
    ·simp only [Act.put, List.setIfInBounds_toArray, List.set_cons_zero, List.set_cons_succ, i64_w, i32_w]
     rfl
    refine one_ (i := 2) (N := some 25) #[true, true, true, true, true, false, false, false] rfl rfl (one_of HT_.out (by kernel_rfl)) (by decide) (fun K hK => ?_)
    refine goes_ Try.func25 (by kernel_rfl) rfl #[.slice A2_1 l2_1.length c2_1] (by rfl) rfl rfl (by (try simp only [List.map_toArray, List.map_cons, List.map_nil]); first | done | rfl | (simp only [List.length_drop, List.length_take]; rfl)) ?_
    with_reducible refine (intarsiaref26_first.calls _ _ l2_1 t322 _ ?side1 ?side2 A14.out).mono ?_
    (case side1 => repeat (first | exact (Kd.C_below HR2_1.out HB.out) | (with_reducible refine Kd.C_alloc ?_ _) | (with_reducible refine Kd.C_drewN ?_ _) | (with_reducible refine Kd.C_drew ?_)))
    (case side2 => exact HC2_1.out)
    rintro e w' ⟨rfl, ⟨nd, rfl⟩⟩
    refine ⟨_, rfl, ?_⟩
    refine hK.out _ _ ⟨(blk_cell BK318.out 0).trans rfl, (blk_cell BK318.out 1).trans rfl, (blk_cell BK319.out 0).trans rfl, (blk_cell BK319.out 1).trans rfl⟩ (fun hHeld => ?_)
    clear hK K
    refine norm_ (a' := ?_) ?_ ?_
    rotate_left
    ·show Act.put _ (some 25) _ = _
     simp only [Act.put, List.setIfInBounds_toArray, List.set_cons_zero, List.set_cons_succ, i64_w, i32_w]
     rfl
    refine one_ (i := 5) (N := some 28) #[true, true, true, true, true, true, false, false] rfl rfl (one_of HT_.out (by kernel_rfl)) (by decide) (fun K hK => ?_)
    refine goes_ Try.func25 (by kernel_rfl) rfl #[.slice A3_1 l3_1.length c3_1] (by rfl) rfl rfl (by (try simp only [List.map_toArray, List.map_cons, List.map_nil]); first | done | rfl | (simp only [List.length_drop, List.length_take]; rfl)) ?_
    with_reducible refine (intarsiaref26_first.calls _ _ l3_1 t323 _ ?side1 ?side2 A15.out).mono ?_
    (case side1 => repeat (first | exact (Kd.C_below HR3_1.out (by repeat (first | (with_reducible first | exact HB.out | apply below_alloc | apply pw_below_drewN | apply below_drew1 | refine below_set ?_ GE318.out | refine below_set ?_ GE319.out) | exact HB.out))) | (with_reducible refine Kd.C_alloc ?_ _) | (with_reducible refine Kd.C_drewN ?_ _) | (with_reducible refine Kd.C_drew ?_)))
    (case side2 => exact HC3_1.out)
    rintro e w' ⟨rfl, ⟨nd, rfl⟩⟩
    refine ⟨_, rfl, ?_⟩
    refine hK.out _ _ ⟨(blk_cell BK318.out 0).trans rfl, (blk_cell BK318.out 1).trans rfl, (blk_cell BK319.out 0).trans rfl, (blk_cell BK319.out 1).trans rfl⟩ (fun hHeld => ?_)
    clear hK K
    refine norm_ (a' := ?_) ?_ ?_
    rotate_left
    ·show Act.put _ (some 28) _ = _
     simp only [Act.put, List.setIfInBounds_toArray, List.set_cons_zero, List.set_cons_succ, i64_w, i32_w]
     rfl
    refine pure_ (i := 6) (N := some 29) (v := ?_) (a' := ?_) #[true, true, true, true, true, true, true, false] rfl rfl (any_of HT_.out (by kernel_rfl)) (fun _ _ _ h => h) (Or.inl ⟨by rfl, ?_⟩) ?_ ?_
    rotate_left
    ·intro w'
     go_simp
     with_reducible rfl
    rotate_left
    ·simp only [Act.put, List.setIfInBounds_toArray, List.set_cons_zero, List.set_cons_succ, i64_w, i32_w]
     rfl
    refine pure_ (i := 7) (N := some 8) (v := ?_) (a' := ?_) #[true, true, true, true, true, true, true, true] rfl rfl (any_of HT_.out (by kernel_rfl)) (fun _ _ _ h => h) (Or.inl ⟨by rfl, ?_⟩) ?_ ?_
    rotate_left
    ·intro w'
     go_simp
     with_reducible rfl
    rotate_left
    ·simp only [Act.put, List.setIfInBounds_toArray, List.set_cons_zero, List.set_cons_succ, i64_w, i32_w]
     rfl
    refine done_ (done_of HT_.out (by kernel_rfl)) ?_
    try go_wp2
    go_ret
    exact ⟨by first | rfl | (simp [errW_none, errW_some] <;> rfl) | (simp [*, errW_none, errW_some] <;> rfl), by repeat (first | (with_reducible first | exact HB.out | apply below_alloc | apply pw_below_drewN | apply below_drew1 | refine below_set ?_ GE318.out | refine below_set ?_ GE319.out) | exact HB.out)⟩
   ·replace c13 := Bool.eq_false_iff.mpr c13
    subst c13
    have H1 : ((intarsiaref26_Recency.f l2_1).bind fun t324 => ((intarsiaref26_Recency.f l3_1).bind fun t327 => ((intarsiaref26_recent.f kj4 t324 t327).bind fun t330 => (if t330 = 0 then ((intarsiaref26_strength.f kj4 l0 a2_0).bind fun t331 => ((intarsiaref26_strength.f kj4 l0 a3_0).bind fun t332 => (if t331 = t332 then (if a2_0 = a3_0 then ((intarsiaref26_ahead.f kj4 l2_1 l3_1).bind fun t333 => (some (decide (t333 > 0)))) else (some (decide (a2_0 < a3_0)))) else (some (decide (t331 > t332)))))) else (some (decide (t330 > 0))))))) = some r := by rw [if_neg (show ¬ (false = true) by decide)] at H; exact H
    clear H
    have H := H1
    clear H1
    replace H := Option.bind_eq_some_iff.mp H
    obtain ⟨t324, A170, H⟩ := H
    replace H : ((intarsiaref26_Recency.f l3_1).bind fun t327 => ((intarsiaref26_recent.f kj4 t324 t327).bind fun t330 => (if t330 = 0 then ((intarsiaref26_strength.f kj4 l0 a2_0).bind fun t331 => ((intarsiaref26_strength.f kj4 l0 a3_0).bind fun t332 => (if t331 = t332 then (if a2_0 = a3_0 then ((intarsiaref26_ahead.f kj4 l2_1 l3_1).bind fun t333 => (some (decide (t333 > 0)))) else (some (decide (a2_0 < a3_0)))) else (some (decide (t331 > t332)))))) else (some (decide (t330 > 0)))))) = some r := H
    have A17 := Aside0.mk A170
    clear A170
    replace H := Option.bind_eq_some_iff.mp H
    obtain ⟨t327, A180, H⟩ := H
    replace H : ((intarsiaref26_recent.f kj4 t324 t327).bind fun t330 => (if t330 = 0 then ((intarsiaref26_strength.f kj4 l0 a2_0).bind fun t331 => ((intarsiaref26_strength.f kj4 l0 a3_0).bind fun t332 => (if t331 = t332 then (if a2_0 = a3_0 then ((intarsiaref26_ahead.f kj4 l2_1 l3_1).bind fun t333 => (some (decide (t333 > 0)))) else (some (decide (a2_0 < a3_0)))) else (some (decide (t331 > t332)))))) else (some (decide (t330 > 0))))) = some r := H
    have A18 := Aside0.mk A180
    clear A180
    replace H := Option.bind_eq_some_iff.mp H
    obtain ⟨t330, A190, H⟩ := H
    replace H : (if t330 = 0 then ((intarsiaref26_strength.f kj4 l0 a2_0).bind fun t331 => ((intarsiaref26_strength.f kj4 l0 a3_0).bind fun t332 => (if t331 = t332 then (if a2_0 = a3_0 then ((intarsiaref26_ahead.f kj4 l2_1 l3_1).bind fun t333 => (some (decide (t333 > 0)))) else (some (decide (a2_0 < a3_0)))) else (some (decide (t331 > t332)))))) else (some (decide (t330 > 0)))) = some r := H
    have A19 := Aside0.mk A190
    clear A190
    by_cases c20 : t330 = 0
    ·rw [if_pos c20] at H
     have c20b0 : (t330 == 0) = true := beq_iff_eq.mpr c20
     have c20b1 : (t330 != 0) = false := bne_eq_false_iff_eq.mpr c20
     clear c20
     replace H := Option.bind_eq_some_iff.mp H
     obtain ⟨t331, A210, H⟩ := H
     replace H : ((intarsiaref26_strength.f kj4 l0 a3_0).bind fun t332 => (if t331 = t332 then (if a2_0 = a3_0 then ((intarsiaref26_ahead.f kj4 l2_1 l3_1).bind fun t333 => (some (decide (t333 > 0)))) else (some (decide (a2_0 < a3_0)))) else (some (decide (t331 > t332))))) = some r := H
     have A21 := Aside0.mk A210
     clear A210
     replace H := Option.bind_eq_some_iff.mp H
     obtain ⟨t332, A220, H⟩ := H
     replace H : (if t331 = t332 then (if a2_0 = a3_0 then ((intarsiaref26_ahead.f kj4 l2_1 l3_1).bind fun t333 => (some (decide (t333 > 0)))) else (some (decide (a2_0 < a3_0)))) else (some (decide (t331 > t332)))) = some r := H
     have A22 := Aside0.mk A220
     clear A220
     by_cases c23 : t331 = t332
     ·rw [if_pos c23] at H
      have c23b0 : (t331 == t332) = true := beq_iff_eq.mpr c23
      have c23b1 : (t331 != t332) = false := bne_eq_false_iff_eq.mpr c23
      clear c23
      by_cases c24 : a2_0 = a3_0
      ·rw [if_pos c24] at H
       have c24b0 : (a2_0 == a3_0) = true := beq_iff_eq.mpr c24
       have c24b1 : (a2_0 != a3_0) = false := bne_eq_false_iff_eq.mpr c24
       clear c24
       replace H := Option.bind_eq_some_iff.mp H
       obtain ⟨t333, A250, H⟩ := H
       replace H : (some (decide (t333 > 0))) = some r := H
       have A25 := Aside0.mk A250
       clear A250
       obtain rfl := Option.some.inj H
       try go_wp2
       have n0_ := Aside0.mk (blk_drew BK318.out)
       have n1_ := Aside0.mk (blk_drew BK319.out)
       have n2_ := Aside0.mk (below_drew1 HB.out)
       clear BK318
       clear BK319
       clear HB
       have BK318 := n0_
       have BK319 := n1_
       have HB := n2_
       clear n0_ n1_ n2_
       refine start_ (n := 8) (S := fun w' => w'.cell? ⟨gb318, 0, none⟩ = some (.int .i64 a2_0) ∧ w'.cell? ⟨gb318, 1, none⟩ = some (.slice A2_1 l2_1.length c2_1) ∧ w'.cell? ⟨gb319, 0, none⟩ = some (.int .i64 a3_0) ∧ w'.cell? ⟨gb319, 1, none⟩ = some (.slice A3_1 l3_1.length c3_1)) (ds := []) #[false, false, false, false, false, false, false, false] (by kernel_rfl) rfl rfl ⟨(blk_cell BK318.out 0).trans rfl, (blk_cell BK318.out 1).trans rfl, (blk_cell BK319.out 0).trans rfl, (blk_cell BK319.out 1).trans rfl⟩ (fun hHeld => ?_); refine with_tabW intarsiaref26_Less.tab3 intarsiaref26_Less.bits3 (fun HT_ HW_ => ?_)
       generalize wc.drew = w26 at BK318 BK319 HB hHeld ⊢
       refine pure_ (i := 0) (N := some 30) (v := ?_) (a' := ?_) #[true, false, false, false, false, false, false, false] rfl rfl (any_of HT_.out (by kernel_rfl)) (fun _ _ _ h => h) (Or.inl ⟨by rfl, ?_⟩) ?_ ?_
       rotate_left
       ·intro w'
        go_simp
        with_reducible rfl
       rotate_left
       ·simp only [Act.put, List.setIfInBounds_toArray, List.set_cons_zero, List.set_cons_succ, i64_w, i32_w]
        rfl
       refine pure_ (i := 3) (N := some 33) (v := ?_) (a' := ?_) #[true, false, false, true, false, false, false, false] rfl rfl (any_of HT_.out (by kernel_rfl)) (fun _ _ _ h => h) (Or.inl ⟨by rfl, ?_⟩) ?_ ?_
       rotate_left
       ·intro w'
        go_simp
        with_reducible rfl
       rotate_left
       ·simp only [Act.put, List.setIfInBounds_toArray, List.set_cons_zero, List.set_cons_succ, i64_w, i32_w]
        rfl
       refine take_ (i := 1) (N := some 31) (v := ?_) (a' := ?_) #[true, true, false, true, false, false, false, false] rfl rfl (take_ofW HT_.out HW_.out (by kernel_rfl)) (fun _ _ _ h => h) (Or.inl ⟨by rfl, ?_⟩) hHeld ?_ ?_
       rotate_left
       ·rintro w' ⟨s0, s1, s2, s3⟩
        go_simp
        with_reducible rfl
       rotate_left
       ·simp only [Act.put, List.setIfInBounds_toArray, List.set_cons_zero, List.set_cons_succ, i64_w, i32_w]
        rfl
       refine take_ (i := 4) (N := some 34) (v := ?_) (a' := ?_) #[true, true, false, true, true, false, false, false] rfl rfl (take_ofW HT_.out HW_.out (by kernel_rfl)) (fun _ _ _ h => h) (Or.inl ⟨by rfl, ?_⟩) hHeld ?_ ?_
       rotate_left
       ·rintro w' ⟨s0, s1, s2, s3⟩
        go_simp
        with_reducible rfl
       rotate_left
       ·simp only [Act.put, List.setIfInBounds_toArray, List.set_cons_zero, List.set_cons_succ, i64_w, i32_w]
        rfl
       refine one_ (i := 2) (N := some 32) #[true, true, true, true, true, false, false, false] rfl rfl (one_of HT_.out (by kernel_rfl)) (by decide) (fun K hK => ?_)
       refine goes_ Try.func16 (by kernel_rfl) rfl #[.slice A2_1 l2_1.length c2_1] (by rfl) rfl rfl (by (try simp only [List.map_toArray, List.map_cons, List.map_nil]); first | done | rfl | (simp only [List.length_drop, List.length_take]; rfl)) ?_
       with_reducible refine (intarsiaref26_Recency.calls _ _ l2_1 t324 _ ?side1 ?side2 A17.out).mono ?_
       (case side1 => repeat (first | exact (Kd.C_below HR2_1.out HB.out) | (with_reducible refine Kd.C_alloc ?_ _) | (with_reducible refine Kd.C_drewN ?_ _) | (with_reducible refine Kd.C_drew ?_)))
       (case side2 => exact HC2_1.out)
       rintro e w27 ⟨v325, rfl, ho0, hb⟩
       refine ⟨_, rfl, ?_⟩
       have n0_ := Aside0.mk (Kd.R_lower ho0 (below_size (by repeat (first | (with_reducible first | exact HB.out | apply below_alloc | apply pw_below_drewN | apply below_drew1 | refine below_set ?_ GE318.out | refine below_set ?_ GE319.out) | exact HB.out))))
       have n1_ := Aside0.mk (blk_below (g := gb318) (o := .cells #[.int .i64 a2_0, .slice A2_1 l2_1.length c2_1] 32 (0, 0)) (by (with_reducible repeat (first | refine blk_drewN ?_ _ | refine blk_drew ?_ | refine blk_alloc ?_ _)); exact BK318.out) hb)
       have n2_ := Aside0.mk (blk_below (g := gb319) (o := .cells #[.int .i64 a3_0, .slice A3_1 l3_1.length c3_1] 32 (0, 0)) (by (with_reducible repeat (first | refine blk_drewN ?_ _ | refine blk_drew ?_ | refine blk_alloc ?_ _)); exact BK319.out) hb)
       have n3_ := Aside0.mk (below_step (by repeat (first | (with_reducible first | exact HB.out | apply below_alloc | apply pw_below_drewN | apply below_drew1 | refine below_set ?_ GE318.out | refine below_set ?_ GE319.out) | exact HB.out)) hb)
       clear BK318
       clear BK319
       clear HB
       have HO326 := n0_
       have BK318 := n1_
       have BK319 := n2_
       have HB := n3_
       clear n0_ n1_ n2_ n3_
       (try clear hb)
       (try clear hb2)
       (try clear hk)
       (try clear hi)
       (try clear ho0)
       refine hK.out _ _ ⟨(blk_cell BK318.out 0).trans rfl, (blk_cell BK318.out 1).trans rfl, (blk_cell BK319.out 0).trans rfl, (blk_cell BK319.out 1).trans rfl⟩ (fun hHeld => ?_)
       clear hK K
       refine norm_ (a' := ?_) ?_ ?_
       rotate_left
       ·show Act.put _ (some 32) _ = _
        simp only [Act.put, List.setIfInBounds_toArray, List.set_cons_zero, List.set_cons_succ, i64_w, i32_w]
        rfl
       refine one_ (i := 5) (N := some 35) #[true, true, true, true, true, true, false, false] rfl rfl (one_of HT_.out (by kernel_rfl)) (by decide) (fun K hK => ?_)
       refine goes_ Try.func16 (by kernel_rfl) rfl #[.slice A3_1 l3_1.length c3_1] (by rfl) rfl rfl (by (try simp only [List.map_toArray, List.map_cons, List.map_nil]); first | done | rfl | (simp only [List.length_drop, List.length_take]; rfl)) ?_
       with_reducible refine (intarsiaref26_Recency.calls _ _ l3_1 t327 _ ?side1 ?side2 A18.out).mono ?_
       (case side1 => repeat (first | exact (Kd.C_below HR3_1.out HB.out) | (with_reducible refine Kd.C_alloc ?_ _) | (with_reducible refine Kd.C_drewN ?_ _) | (with_reducible refine Kd.C_drew ?_)))
       (case side2 => exact HC3_1.out)
       rintro e w28 ⟨v328, rfl, ho0, hb⟩
       refine ⟨_, rfl, ?_⟩
       have n0_ := Aside0.mk (Kd.R_elder' (by (with_reducible repeat (first | apply Kd.R_alloc | apply Kd.R_drewN | apply Kd.R_drew)); exact HO326.out) (Kd.R_base ho0) hb)
       have n1_ := Aside0.mk (Kd.R_lower (Kd.R_new' ho0 (Kd.R_lt (by (with_reducible repeat (first | apply Kd.R_alloc | apply Kd.R_drewN | apply Kd.R_drew)); exact HO326.out))) (below_size (by repeat (first | (with_reducible first | exact HB.out | apply below_alloc | apply pw_below_drewN | apply below_drew1 | refine below_set ?_ GE318.out | refine below_set ?_ GE319.out) | exact HB.out))))
       have n2_ := Aside0.mk (blk_below (g := gb318) (o := .cells #[.int .i64 a2_0, .slice A2_1 l2_1.length c2_1] 32 (0, 0)) (by (with_reducible repeat (first | refine blk_drewN ?_ _ | refine blk_drew ?_ | refine blk_alloc ?_ _)); exact BK318.out) hb)
       have n3_ := Aside0.mk (blk_below (g := gb319) (o := .cells #[.int .i64 a3_0, .slice A3_1 l3_1.length c3_1] 32 (0, 0)) (by (with_reducible repeat (first | refine blk_drewN ?_ _ | refine blk_drew ?_ | refine blk_alloc ?_ _)); exact BK319.out) hb)
       have n4_ := Aside0.mk (below_step (by repeat (first | (with_reducible first | exact HB.out | apply below_alloc | apply pw_below_drewN | apply below_drew1 | refine below_set ?_ GE318.out | refine below_set ?_ GE319.out) | exact HB.out)) hb)
       clear HO326
       clear BK318
       clear BK319
       clear HB
       have HO326 := n0_
       have HO329 := n1_
       have BK318 := n2_
       have BK319 := n3_
       have HB := n4_
       clear n0_ n1_ n2_ n3_ n4_
       (try clear hb)
       (try clear hb2)
       (try clear hk)
       (try clear hi)
       (try clear ho0)
       obtain ⟨Ao29, co29, eo29⟩ := Kd.R_slice HO326.out
       (first | subst eo29 | (injection eo29 with f1_ f2_ f3_; have f4_ := f1_.symm; have f5_ := f3_.symm; clear f1_ f2_ f3_; subst f4_; subst f5_))
       obtain ⟨Ao30, co30, eo30⟩ := Kd.R_slice HO329.out
       (first | subst eo30 | (injection eo30 with f1_ f2_ f3_; have f4_ := f1_.symm; have f5_ := f3_.symm; clear f1_ f2_ f3_; subst f4_; subst f5_))
       refine hK.out _ _ ⟨(blk_cell BK318.out 0).trans rfl, (blk_cell BK318.out 1).trans rfl, (blk_cell BK319.out 0).trans rfl, (blk_cell BK319.out 1).trans rfl⟩ (fun hHeld => ?_)
       clear hK K
       refine norm_ (a' := ?_) ?_ ?_
       rotate_left
       ·show Act.put _ (some 35) _ = _
        simp only [Act.put, List.setIfInBounds_toArray, List.set_cons_zero, List.set_cons_succ, i64_w, i32_w]
        rfl
       refine one_ (i := 6) (N := some 36) #[true, true, true, true, true, true, true, false] rfl rfl (one_of HT_.out (by kernel_rfl)) (by decide) (fun K hK => ?_)
       refine goes_ Try.func26 (by kernel_rfl) rfl #[.slice Ao29 t324.length co29, .slice Ao30 t327.length co30] (by rfl) rfl rfl (by (try simp only [List.map_toArray, List.map_cons, List.map_nil]); first | done | rfl | (simp only [List.length_drop, List.length_take]; rfl)) ?_
       with_reducible refine (intarsiaref26_recent.calls kj4 _ _ t324 _ _ t327 t330 _ ?side1 ?side2 ?side3 ?side4 A19.out).mono ?_
       (case side1 => repeat (first | exact (Kd.R_reads' HO326.out).2.2 | (with_reducible refine Kd.C_alloc ?_ _) | (with_reducible refine Kd.C_drewN ?_ _) | (with_reducible refine Kd.C_drew ?_)))
       (case side2 => exact (Kd.R_reads' HO326.out).2.1)
       (case side3 => repeat (first | exact (Kd.R_reads' HO329.out).2.2 | (with_reducible refine Kd.C_alloc ?_ _) | (with_reducible refine Kd.C_drewN ?_ _) | (with_reducible refine Kd.C_drew ?_)))
       (case side4 => exact (Kd.R_reads' HO329.out).2.1)
       rintro e w' ⟨rfl, ⟨nd, rfl⟩⟩
       refine ⟨_, rfl, ?_⟩
       refine hK.out _ _ ⟨(blk_cell BK318.out 0).trans rfl, (blk_cell BK318.out 1).trans rfl, (blk_cell BK319.out 0).trans rfl, (blk_cell BK319.out 1).trans rfl⟩ (fun hHeld => ?_)
       clear hK K
       refine norm_ (a' := ?_) ?_ ?_
       rotate_left
       ·show Act.put _ (some 36) _ = _
        simp only [Act.put, List.setIfInBounds_toArray, List.set_cons_zero, List.set_cons_succ, i64_w, i32_w]
        rfl
       refine pure_ (i := 7) (N := some 9) (v := ?_) (a' := ?_) #[true, true, true, true, true, true, true, true] rfl rfl (any_of HT_.out (by kernel_rfl)) (fun _ _ _ h => h) (Or.inl ⟨by rfl, ?_⟩) ?_ ?_
       rotate_left
       ·intro w'
        go_simp
        with_reducible rfl
       rotate_left
       ·simp only [Act.put, List.setIfInBounds_toArray, List.set_cons_zero, List.set_cons_succ, i64_w, i32_w]
        rfl
       refine done_ (done_of HT_.out (by kernel_rfl)) ?_
       try go_wp2
       (try (rw [drewN_self w28]; generalize hq_ : World.drewN w28 _ = w28; have n0_ : Aside0 (Kd.R (Kd.int .i64) 3 w28 w.heap.size (fun k_ => some k_ ≠ (.slice Ao30 t327.length co30 : Value).ownBlock) (.slice Ao29 t324.length co29) t324) := ⟨by rw [← hq_]; exact (by (with_reducible repeat (first | apply Kd.R_alloc | apply Kd.R_drewN | apply Kd.R_drew)); exact Kd.R_mono HO326.out (fun _ hk => hk.2))⟩; have n1_ : Aside0 (Kd.R (Kd.int .i64) 3 w28 w.heap.size (fun k_ => some k_ ≠ (.slice Ao29 t324.length co29 : Value).ownBlock) (.slice Ao30 t327.length co30) t327) := ⟨by rw [← hq_]; exact (by (with_reducible repeat (first | apply Kd.R_alloc | apply Kd.R_drewN | apply Kd.R_drew)); exact Kd.R_mono HO329.out (fun _ hk => hk.2))⟩; have n2_ : Aside0 (w28.heap[gb318]? = some (.cells #[.int .i64 a2_0, .slice A2_1 l2_1.length c2_1] 32 (0, 0))) := ⟨by rw [← hq_]; exact (by (with_reducible repeat (first | refine blk_drewN ?_ _ | refine blk_drew ?_ | refine blk_alloc ?_ _)); exact BK318.out)⟩; have n3_ : Aside0 (w28.heap[gb319]? = some (.cells #[.int .i64 a3_0, .slice A3_1 l3_1.length c3_1] 32 (0, 0))) := ⟨by rw [← hq_]; exact (by (with_reducible repeat (first | refine blk_drewN ?_ _ | refine blk_drew ?_ | refine blk_alloc ?_ _)); exact BK319.out)⟩; have n4_ : Aside0 (Below w.heap.size w w28) := ⟨by rw [← hq_]; exact (by repeat (first | (with_reducible first | exact HB.out | apply below_alloc | apply pw_below_drewN | apply below_drew1 | refine below_set ?_ GE318.out | refine below_set ?_ GE319.out) | exact HB.out))⟩; clear HO326 HO329 BK318 BK319 HB hq_; have HO326 := n0_; have HO329 := n1_; have BK318 := n2_; have BK319 := n3_; have HB := n4_; clear n0_ n1_ n2_ n3_ n4_))
       have n0_ := Aside0.mk (Kd.R_drew HO326.out)
       have n1_ := Aside0.mk (Kd.R_drew HO329.out)
       have n2_ := Aside0.mk (blk_drew BK318.out)
       have n3_ := Aside0.mk (blk_drew BK319.out)
       have n4_ := Aside0.mk (below_drew1 HB.out)
       clear HO326
       clear HO329
       clear BK318
       clear BK319
       clear HB
       have HO326 := n0_
       have HO329 := n1_
       have BK318 := n2_
       have BK319 := n3_
       have HB := n4_
       clear n0_ n1_ n2_ n3_ n4_
       refine start_ (n := 10) (S := fun w' => w'.cell? ⟨gb318, 0, none⟩ = some (.int .i64 a2_0) ∧ w'.cell? ⟨gb318, 1, none⟩ = some (.slice A2_1 l2_1.length c2_1) ∧ w'.cell? ⟨gb319, 0, none⟩ = some (.int .i64 a3_0) ∧ w'.cell? ⟨gb319, 1, none⟩ = some (.slice A3_1 l3_1.length c3_1)) (ds := []) #[false, false, false, false, false, false, false, false, false, false] (by kernel_rfl) rfl rfl ⟨(blk_cell BK318.out 0).trans rfl, (blk_cell BK318.out 1).trans rfl, (blk_cell BK319.out 0).trans rfl, (blk_cell BK319.out 1).trans rfl⟩ (fun hHeld => ?_); refine with_tabW intarsiaref26_Less.tab6 intarsiaref26_Less.bits6 (fun HT_ HW_ => ?_)
       generalize w28.drew = w31 at HO326 HO329 BK318 BK319 HB hHeld ⊢
       refine pure_ (i := 0) (N := some 41) (v := ?_) (a' := ?_) #[true, false, false, false, false, false, false, false, false, false] rfl rfl (any_of HT_.out (by kernel_rfl)) (fun _ _ _ h => h) (Or.inl ⟨by rfl, ?_⟩) ?_ ?_
       rotate_left
       ·intro w'
        go_simp
        with_reducible rfl
       rotate_left
       ·simp only [Act.put, List.setIfInBounds_toArray, List.set_cons_zero, List.set_cons_succ, i64_w, i32_w]
        rfl
       refine pure_ (i := 1) (N := some 42) (v := ?_) (a' := ?_) #[true, true, false, false, false, false, false, false, false, false] rfl rfl (any_of HT_.out (by kernel_rfl)) (fun _ _ _ h => h) (Or.inl ⟨by rfl, ?_⟩) ?_ ?_
       rotate_left
       ·intro w'
        go_simp
        with_reducible rfl
       rotate_left
       ·simp only [Act.put, List.setIfInBounds_toArray, List.set_cons_zero, List.set_cons_succ, i64_w, i32_w]
        rfl
       refine pure_ (i := 4) (N := some 45) (v := ?_) (a' := ?_) #[true, true, false, false, true, false, false, false, false, false] rfl rfl (any_of HT_.out (by kernel_rfl)) (fun _ _ _ h => h) (Or.inl ⟨by rfl, ?_⟩) ?_ ?_
       rotate_left
       ·intro w'
        go_simp
        with_reducible rfl
       rotate_left
       ·simp only [Act.put, List.setIfInBounds_toArray, List.set_cons_zero, List.set_cons_succ, i64_w, i32_w]
        rfl
       refine pure_ (i := 5) (N := some 46) (v := ?_) (a' := ?_) #[true, true, false, false, true, true, false, false, false, false] rfl rfl (any_of HT_.out (by kernel_rfl)) (fun _ _ _ h => h) (Or.inl ⟨by rfl, ?_⟩) ?_ ?_
       rotate_left
       ·intro w'
        go_simp
        with_reducible rfl
       rotate_left
       ·simp only [Act.put, List.setIfInBounds_toArray, List.set_cons_zero, List.set_cons_succ, i64_w, i32_w]
        rfl
       refine take_ (i := 2) (N := some 43) (v := ?_) (a' := ?_) #[true, true, true, false, true, true, false, false, false, false] rfl rfl (take_ofW HT_.out HW_.out (by kernel_rfl)) (fun _ _ _ h => h) (Or.inl ⟨by rfl, ?_⟩) hHeld ?_ ?_
       rotate_left
       ·rintro w' ⟨s0, s1, s2, s3⟩
        go_simp
        with_reducible rfl
       rotate_left
       ·simp only [Act.put, List.setIfInBounds_toArray, List.set_cons_zero, List.set_cons_succ, i64_w, i32_w]
        rfl
       refine take_ (i := 6) (N := some 47) (v := ?_) (a' := ?_) #[true, true, true, false, true, true, true, false, false, false] rfl rfl (take_ofW HT_.out HW_.out (by kernel_rfl)) (fun _ _ _ h => h) (Or.inl ⟨by rfl, ?_⟩) hHeld ?_ ?_
       rotate_left
       ·rintro w' ⟨s0, s1, s2, s3⟩
        go_simp
        with_reducible rfl
       rotate_left
       ·simp only [Act.put, List.setIfInBounds_toArray, List.set_cons_zero, List.set_cons_succ, i64_w, i32_w]
        rfl
       refine one_ (i := 3) (N := some 44) #[true, true, true, true, true, true, true, false, false, false] rfl rfl (one_of HT_.out (by kernel_rfl)) (by decide) (fun K hK => ?_)
       refine goes_ Try.func27 (by kernel_rfl) rfl #[.slice A0 l0.length c0, .int .i64 a2_0] (by rfl) rfl rfl (by (try simp only [List.map_toArray, List.map_cons, List.map_nil]); first | done | rfl | (simp only [List.length_drop, List.length_take]; rfl)) ?_
       with_reducible refine (intarsiaref26_strength.calls kj4 _ _ l0 a2_0 t331 _ ?side1 ?side2 A21.out).mono ?_
       (case side1 => repeat (first | exact (Kd.C_below HR0.out HB.out) | (with_reducible refine Kd.C_alloc ?_ _) | (with_reducible refine Kd.C_drewN ?_ _) | (with_reducible refine Kd.C_drew ?_)))
       (case side2 => exact HC0.out)
       rintro e w32 ⟨rfl, hb⟩
       refine ⟨_, rfl, ?_⟩
       have n0_ := Aside0.mk (Kd.R_below (by (with_reducible repeat (first | apply Kd.R_alloc | apply Kd.R_drewN | apply Kd.R_drew)); exact HO326.out) hb)
       have n1_ := Aside0.mk (Kd.R_below (by (with_reducible repeat (first | apply Kd.R_alloc | apply Kd.R_drewN | apply Kd.R_drew)); exact HO329.out) hb)
       have n2_ := Aside0.mk (blk_below (g := gb318) (o := .cells #[.int .i64 a2_0, .slice A2_1 l2_1.length c2_1] 32 (0, 0)) (by (with_reducible repeat (first | refine blk_drewN ?_ _ | refine blk_drew ?_ | refine blk_alloc ?_ _)); exact BK318.out) hb)
       have n3_ := Aside0.mk (blk_below (g := gb319) (o := .cells #[.int .i64 a3_0, .slice A3_1 l3_1.length c3_1] 32 (0, 0)) (by (with_reducible repeat (first | refine blk_drewN ?_ _ | refine blk_drew ?_ | refine blk_alloc ?_ _)); exact BK319.out) hb)
       have n4_ := Aside0.mk (below_step (by repeat (first | (with_reducible first | exact HB.out | apply below_alloc | apply pw_below_drewN | apply below_drew1 | refine below_set ?_ GE318.out | refine below_set ?_ GE319.out) | exact HB.out)) hb)
       clear HO326
       clear HO329
       clear BK318
       clear BK319
       clear HB
       have HO326 := n0_
       have HO329 := n1_
       have BK318 := n2_
       have BK319 := n3_
       have HB := n4_
       clear n0_ n1_ n2_ n3_ n4_
       (try clear hb)
       (try clear hb2)
       (try clear hk)
       (try clear hi)
       refine hK.out _ _ ⟨(blk_cell BK318.out 0).trans rfl, (blk_cell BK318.out 1).trans rfl, (blk_cell BK319.out 0).trans rfl, (blk_cell BK319.out 1).trans rfl⟩ (fun hHeld => ?_)
       clear hK K
       refine norm_ (a' := ?_) ?_ ?_
       rotate_left
       ·show Act.put _ (some 44) _ = _
        simp only [Act.put, List.setIfInBounds_toArray, List.set_cons_zero, List.set_cons_succ, i64_w, i32_w]
        rfl
       refine one_ (i := 7) (N := some 48) #[true, true, true, true, true, true, true, true, false, false] rfl rfl (one_of HT_.out (by kernel_rfl)) (by decide) (fun K hK => ?_)
       refine goes_ Try.func27 (by kernel_rfl) rfl #[.slice A0 l0.length c0, .int .i64 a3_0] (by rfl) rfl rfl (by (try simp only [List.map_toArray, List.map_cons, List.map_nil]); first | done | rfl | (simp only [List.length_drop, List.length_take]; rfl)) ?_
       with_reducible refine (intarsiaref26_strength.calls kj4 _ _ l0 a3_0 t332 _ ?side1 ?side2 A22.out).mono ?_
       (case side1 => repeat (first | exact (Kd.C_below HR0.out HB.out) | (with_reducible refine Kd.C_alloc ?_ _) | (with_reducible refine Kd.C_drewN ?_ _) | (with_reducible refine Kd.C_drew ?_)))
       (case side2 => exact HC0.out)
       rintro e w33 ⟨rfl, hb⟩
       refine ⟨_, rfl, ?_⟩
       have n0_ := Aside0.mk (Kd.R_below (by (with_reducible repeat (first | apply Kd.R_alloc | apply Kd.R_drewN | apply Kd.R_drew)); exact HO326.out) hb)
       have n1_ := Aside0.mk (Kd.R_below (by (with_reducible repeat (first | apply Kd.R_alloc | apply Kd.R_drewN | apply Kd.R_drew)); exact HO329.out) hb)
       have n2_ := Aside0.mk (blk_below (g := gb318) (o := .cells #[.int .i64 a2_0, .slice A2_1 l2_1.length c2_1] 32 (0, 0)) (by (with_reducible repeat (first | refine blk_drewN ?_ _ | refine blk_drew ?_ | refine blk_alloc ?_ _)); exact BK318.out) hb)
       have n3_ := Aside0.mk (blk_below (g := gb319) (o := .cells #[.int .i64 a3_0, .slice A3_1 l3_1.length c3_1] 32 (0, 0)) (by (with_reducible repeat (first | refine blk_drewN ?_ _ | refine blk_drew ?_ | refine blk_alloc ?_ _)); exact BK319.out) hb)
       have n4_ := Aside0.mk (below_step (by repeat (first | (with_reducible first | exact HB.out | apply below_alloc | apply pw_below_drewN | apply below_drew1 | refine below_set ?_ GE318.out | refine below_set ?_ GE319.out) | exact HB.out)) hb)
       clear HO326
       clear HO329
       clear BK318
       clear BK319
       clear HB
       have HO326 := n0_
       have HO329 := n1_
       have BK318 := n2_
       have BK319 := n3_
       have HB := n4_
       clear n0_ n1_ n2_ n3_ n4_
       (try clear hb)
       (try clear hb2)
       (try clear hk)
       (try clear hi)
       refine hK.out _ _ ⟨(blk_cell BK318.out 0).trans rfl, (blk_cell BK318.out 1).trans rfl, (blk_cell BK319.out 0).trans rfl, (blk_cell BK319.out 1).trans rfl⟩ (fun hHeld => ?_)
       clear hK K
       refine norm_ (a' := ?_) ?_ ?_
       rotate_left
       ·show Act.put _ (some 48) _ = _
        simp only [Act.put, List.setIfInBounds_toArray, List.set_cons_zero, List.set_cons_succ, i64_w, i32_w]
        rfl
       refine pure_ (i := 8) (N := some 10) (v := ?_) (a' := ?_) #[true, true, true, true, true, true, true, true, true, false] rfl rfl (any_of HT_.out (by kernel_rfl)) (fun _ _ _ h => h) (Or.inl ⟨by rfl, ?_⟩) ?_ ?_
       rotate_left
       ·intro w'
        go_simp
        with_reducible rfl
       rotate_left
       ·simp only [Act.put, List.setIfInBounds_toArray, List.set_cons_zero, List.set_cons_succ, i64_w, i32_w]
        rfl
       refine pure_ (i := 9) (N := some 11) (v := ?_) (a' := ?_) #[true, true, true, true, true, true, true, true, true, true] rfl rfl (any_of HT_.out (by kernel_rfl)) (fun _ _ _ h => h) (Or.inl ⟨by rfl, ?_⟩) ?_ ?_
       rotate_left
       ·intro w'
        go_simp
        with_reducible rfl
       rotate_left
       ·simp only [Act.put, List.setIfInBounds_toArray, List.set_cons_zero, List.set_cons_succ, i64_w, i32_w]
        rfl
       refine done_ (done_of HT_.out (by kernel_rfl)) ?_
       have hnb34 := NB318_319.out
       have hnc34 := NB319_318.out
       have hcz35_0 : w33.cell? ⟨gb318, 0, none⟩ = some (.int .i64 a2_0) := (blk_cell BK318.out 0).trans rfl
       have hcz35_1 : w33.cell? ⟨gb318, 1, none⟩ = some (.slice A2_1 l2_1.length c2_1) := (blk_cell BK318.out 1).trans rfl
       have hfz35_0 := blk_frozen BK318.out 0
       have hfz35_1 := blk_frozen BK318.out 1
       have hcz36_0 : w33.cell? ⟨gb319, 0, none⟩ = some (.int .i64 a3_0) := (blk_cell BK319.out 0).trans rfl
       have hcz36_1 : w33.cell? ⟨gb319, 1, none⟩ = some (.slice A3_1 l3_1.length c3_1) := (blk_cell BK319.out 1).trans rfl
       have hfz36_0 := blk_frozen BK319.out 0
       have hfz36_1 := blk_frozen BK319.out 1
       try go_wp2_with (first | ((with_reducible refine gate_callee (f := 28) rfl ?_); refine goesL_ (some 71) rfl rfl Try.func28 (by kernel_rfl) rfl #[.slice A2_1 l2_1.length c2_1, .slice A3_1 l3_1.length c3_1] rfl (by (try simp only [List.map_toArray, List.map_cons, List.map_nil]); first | done | rfl | (simp only [List.length_drop, List.length_take]; rfl)) ?_; (with_reducible refine (intarsiaref26_ahead.calls kj4 _ _ l2_1 _ _ l3_1 t333 _ ?side1 ?side2 ?side3 ?side4 A25.out).mono ?_); (case side1 => repeat (first | exact (Kd.C_below HR2_1.out HB.out) | (with_reducible refine Kd.C_alloc ?_ _) | (with_reducible refine Kd.C_drewN ?_ _) | (with_reducible refine Kd.C_drew ?_))); (case side2 => exact HC2_1.out); (case side3 => repeat (first | exact (Kd.C_below HR3_1.out HB.out) | (with_reducible refine Kd.C_alloc ?_ _) | (with_reducible refine Kd.C_drewN ?_ _) | (with_reducible refine Kd.C_drew ?_))); (case side4 => exact HC3_1.out); rintro e w' ⟨rfl, ⟨nd, rfl⟩⟩; refine ⟨_, rfl, ?_⟩))
       go_ret
       exact ⟨by first | rfl | (simp [errW_none, errW_some] <;> rfl) | (simp [*, errW_none, errW_some] <;> rfl), by repeat (first | (with_reducible first | exact HB.out | apply below_alloc | apply pw_below_drewN | apply below_drew1 | refine below_set ?_ GE318.out | refine below_set ?_ GE319.out) | exact HB.out)⟩
      ·rw [if_neg c24] at H
       have c24b0 : (a2_0 == a3_0) = false := beq_eq_false_iff_ne.mpr c24
       have c24b1 : (a2_0 != a3_0) = true := bne_iff_ne.mpr c24
       obtain rfl := Option.some.inj H
       try go_wp2
       have n0_ := Aside0.mk (blk_drew BK318.out)
       have n1_ := Aside0.mk (blk_drew BK319.out)
       have n2_ := Aside0.mk (below_drew1 HB.out)
       clear BK318
       clear BK319
       clear HB
       have BK318 := n0_
       have BK319 := n1_
       have HB := n2_
       clear n0_ n1_ n2_
       refine start_ (n := 8) (S := fun w' => w'.cell? ⟨gb318, 0, none⟩ = some (.int .i64 a2_0) ∧ w'.cell? ⟨gb318, 1, none⟩ = some (.slice A2_1 l2_1.length c2_1) ∧ w'.cell? ⟨gb319, 0, none⟩ = some (.int .i64 a3_0) ∧ w'.cell? ⟨gb319, 1, none⟩ = some (.slice A3_1 l3_1.length c3_1)) (ds := []) #[false, false, false, false, false, false, false, false] (by kernel_rfl) rfl rfl ⟨(blk_cell BK318.out 0).trans rfl, (blk_cell BK318.out 1).trans rfl, (blk_cell BK319.out 0).trans rfl, (blk_cell BK319.out 1).trans rfl⟩ (fun hHeld => ?_); refine with_tabW intarsiaref26_Less.tab3 intarsiaref26_Less.bits3 (fun HT_ HW_ => ?_)
       generalize wc.drew = w37 at BK318 BK319 HB hHeld ⊢
       refine pure_ (i := 0) (N := some 30) (v := ?_) (a' := ?_) #[true, false, false, false, false, false, false, false] rfl rfl (any_of HT_.out (by kernel_rfl)) (fun _ _ _ h => h) (Or.inl ⟨by rfl, ?_⟩) ?_ ?_
       rotate_left
       ·intro w'
        go_simp
        with_reducible rfl
       rotate_left
       ·simp only [Act.put, List.setIfInBounds_toArray, List.set_cons_zero, List.set_cons_succ, i64_w, i32_w]
        rfl
       refine pure_ (i := 3) (N := some 33) (v := ?_) (a' := ?_) #[true, false, false, true, false, false, false, false] rfl rfl (any_of HT_.out (by kernel_rfl)) (fun _ _ _ h => h) (Or.inl ⟨by rfl, ?_⟩) ?_ ?_
       rotate_left
       ·intro w'
        go_simp
        with_reducible rfl
       rotate_left
       ·simp only [Act.put, List.setIfInBounds_toArray, List.set_cons_zero, List.set_cons_succ, i64_w, i32_w]
        rfl
       refine take_ (i := 1) (N := some 31) (v := ?_) (a' := ?_) #[true, true, false, true, false, false, false, false] rfl rfl (take_ofW HT_.out HW_.out (by kernel_rfl)) (fun _ _ _ h => h) (Or.inl ⟨by rfl, ?_⟩) hHeld ?_ ?_
       rotate_left
       ·rintro w' ⟨s0, s1, s2, s3⟩
        go_simp
        with_reducible rfl
       rotate_left
       ·simp only [Act.put, List.setIfInBounds_toArray, List.set_cons_zero, List.set_cons_succ, i64_w, i32_w]
        rfl
       refine take_ (i := 4) (N := some 34) (v := ?_) (a' := ?_) #[true, true, false, true, true, false, false, false] rfl rfl (take_ofW HT_.out HW_.out (by kernel_rfl)) (fun _ _ _ h => h) (Or.inl ⟨by rfl, ?_⟩) hHeld ?_ ?_
       rotate_left
       ·rintro w' ⟨s0, s1, s2, s3⟩
        go_simp
        with_reducible rfl
       rotate_left
       ·simp only [Act.put, List.setIfInBounds_toArray, List.set_cons_zero, List.set_cons_succ, i64_w, i32_w]
        rfl
       refine one_ (i := 2) (N := some 32) #[true, true, true, true, true, false, false, false] rfl rfl (one_of HT_.out (by kernel_rfl)) (by decide) (fun K hK => ?_)
       refine goes_ Try.func16 (by kernel_rfl) rfl #[.slice A2_1 l2_1.length c2_1] (by rfl) rfl rfl (by (try simp only [List.map_toArray, List.map_cons, List.map_nil]); first | done | rfl | (simp only [List.length_drop, List.length_take]; rfl)) ?_
       with_reducible refine (intarsiaref26_Recency.calls _ _ l2_1 t324 _ ?side1 ?side2 A17.out).mono ?_
       (case side1 => repeat (first | exact (Kd.C_below HR2_1.out HB.out) | (with_reducible refine Kd.C_alloc ?_ _) | (with_reducible refine Kd.C_drewN ?_ _) | (with_reducible refine Kd.C_drew ?_)))
       (case side2 => exact HC2_1.out)
       rintro e w38 ⟨v325, rfl, ho0, hb⟩
       refine ⟨_, rfl, ?_⟩
       have n0_ := Aside0.mk (Kd.R_lower ho0 (below_size (by repeat (first | (with_reducible first | exact HB.out | apply below_alloc | apply pw_below_drewN | apply below_drew1 | refine below_set ?_ GE318.out | refine below_set ?_ GE319.out) | exact HB.out))))
       have n1_ := Aside0.mk (blk_below (g := gb318) (o := .cells #[.int .i64 a2_0, .slice A2_1 l2_1.length c2_1] 32 (0, 0)) (by (with_reducible repeat (first | refine blk_drewN ?_ _ | refine blk_drew ?_ | refine blk_alloc ?_ _)); exact BK318.out) hb)
       have n2_ := Aside0.mk (blk_below (g := gb319) (o := .cells #[.int .i64 a3_0, .slice A3_1 l3_1.length c3_1] 32 (0, 0)) (by (with_reducible repeat (first | refine blk_drewN ?_ _ | refine blk_drew ?_ | refine blk_alloc ?_ _)); exact BK319.out) hb)
       have n3_ := Aside0.mk (below_step (by repeat (first | (with_reducible first | exact HB.out | apply below_alloc | apply pw_below_drewN | apply below_drew1 | refine below_set ?_ GE318.out | refine below_set ?_ GE319.out) | exact HB.out)) hb)
       clear BK318
       clear BK319
       clear HB
       have HO326 := n0_
       have BK318 := n1_
       have BK319 := n2_
       have HB := n3_
       clear n0_ n1_ n2_ n3_
       (try clear hb)
       (try clear hb2)
       (try clear hk)
       (try clear hi)
       (try clear ho0)
       refine hK.out _ _ ⟨(blk_cell BK318.out 0).trans rfl, (blk_cell BK318.out 1).trans rfl, (blk_cell BK319.out 0).trans rfl, (blk_cell BK319.out 1).trans rfl⟩ (fun hHeld => ?_)
       clear hK K
       refine norm_ (a' := ?_) ?_ ?_
       rotate_left
       ·show Act.put _ (some 32) _ = _
        simp only [Act.put, List.setIfInBounds_toArray, List.set_cons_zero, List.set_cons_succ, i64_w, i32_w]
        rfl
       refine one_ (i := 5) (N := some 35) #[true, true, true, true, true, true, false, false] rfl rfl (one_of HT_.out (by kernel_rfl)) (by decide) (fun K hK => ?_)
       refine goes_ Try.func16 (by kernel_rfl) rfl #[.slice A3_1 l3_1.length c3_1] (by rfl) rfl rfl (by (try simp only [List.map_toArray, List.map_cons, List.map_nil]); first | done | rfl | (simp only [List.length_drop, List.length_take]; rfl)) ?_
       with_reducible refine (intarsiaref26_Recency.calls _ _ l3_1 t327 _ ?side1 ?side2 A18.out).mono ?_
       (case side1 => repeat (first | exact (Kd.C_below HR3_1.out HB.out) | (with_reducible refine Kd.C_alloc ?_ _) | (with_reducible refine Kd.C_drewN ?_ _) | (with_reducible refine Kd.C_drew ?_)))
       (case side2 => exact HC3_1.out)
       rintro e w39 ⟨v328, rfl, ho0, hb⟩
       refine ⟨_, rfl, ?_⟩
       have n0_ := Aside0.mk (Kd.R_elder' (by (with_reducible repeat (first | apply Kd.R_alloc | apply Kd.R_drewN | apply Kd.R_drew)); exact HO326.out) (Kd.R_base ho0) hb)
       have n1_ := Aside0.mk (Kd.R_lower (Kd.R_new' ho0 (Kd.R_lt (by (with_reducible repeat (first | apply Kd.R_alloc | apply Kd.R_drewN | apply Kd.R_drew)); exact HO326.out))) (below_size (by repeat (first | (with_reducible first | exact HB.out | apply below_alloc | apply pw_below_drewN | apply below_drew1 | refine below_set ?_ GE318.out | refine below_set ?_ GE319.out) | exact HB.out))))
       have n2_ := Aside0.mk (blk_below (g := gb318) (o := .cells #[.int .i64 a2_0, .slice A2_1 l2_1.length c2_1] 32 (0, 0)) (by (with_reducible repeat (first | refine blk_drewN ?_ _ | refine blk_drew ?_ | refine blk_alloc ?_ _)); exact BK318.out) hb)
       have n3_ := Aside0.mk (blk_below (g := gb319) (o := .cells #[.int .i64 a3_0, .slice A3_1 l3_1.length c3_1] 32 (0, 0)) (by (with_reducible repeat (first | refine blk_drewN ?_ _ | refine blk_drew ?_ | refine blk_alloc ?_ _)); exact BK319.out) hb)
       have n4_ := Aside0.mk (below_step (by repeat (first | (with_reducible first | exact HB.out | apply below_alloc | apply pw_below_drewN | apply below_drew1 | refine below_set ?_ GE318.out | refine below_set ?_ GE319.out) | exact HB.out)) hb)
       clear HO326
       clear BK318
       clear BK319
       clear HB
       have HO326 := n0_
       have HO329 := n1_
       have BK318 := n2_
       have BK319 := n3_
       have HB := n4_
       clear n0_ n1_ n2_ n3_ n4_
       (try clear hb)
       (try clear hb2)
       (try clear hk)
       (try clear hi)
       (try clear ho0)
       obtain ⟨Ao40, co40, eo40⟩ := Kd.R_slice HO326.out
       (first | subst eo40 | (injection eo40 with f1_ f2_ f3_; have f4_ := f1_.symm; have f5_ := f3_.symm; clear f1_ f2_ f3_; subst f4_; subst f5_))
       obtain ⟨Ao41, co41, eo41⟩ := Kd.R_slice HO329.out
       (first | subst eo41 | (injection eo41 with f1_ f2_ f3_; have f4_ := f1_.symm; have f5_ := f3_.symm; clear f1_ f2_ f3_; subst f4_; subst f5_))
       refine hK.out _ _ ⟨(blk_cell BK318.out 0).trans rfl, (blk_cell BK318.out 1).trans rfl, (blk_cell BK319.out 0).trans rfl, (blk_cell BK319.out 1).trans rfl⟩ (fun hHeld => ?_)
       clear hK K
       refine norm_ (a' := ?_) ?_ ?_
       rotate_left
       ·show Act.put _ (some 35) _ = _
        simp only [Act.put, List.setIfInBounds_toArray, List.set_cons_zero, List.set_cons_succ, i64_w, i32_w]
        rfl
       refine one_ (i := 6) (N := some 36) #[true, true, true, true, true, true, true, false] rfl rfl (one_of HT_.out (by kernel_rfl)) (by decide) (fun K hK => ?_)
       refine goes_ Try.func26 (by kernel_rfl) rfl #[.slice Ao40 t324.length co40, .slice Ao41 t327.length co41] (by rfl) rfl rfl (by (try simp only [List.map_toArray, List.map_cons, List.map_nil]); first | done | rfl | (simp only [List.length_drop, List.length_take]; rfl)) ?_
       with_reducible refine (intarsiaref26_recent.calls kj4 _ _ t324 _ _ t327 t330 _ ?side1 ?side2 ?side3 ?side4 A19.out).mono ?_
       (case side1 => repeat (first | exact (Kd.R_reads' HO326.out).2.2 | (with_reducible refine Kd.C_alloc ?_ _) | (with_reducible refine Kd.C_drewN ?_ _) | (with_reducible refine Kd.C_drew ?_)))
       (case side2 => exact (Kd.R_reads' HO326.out).2.1)
       (case side3 => repeat (first | exact (Kd.R_reads' HO329.out).2.2 | (with_reducible refine Kd.C_alloc ?_ _) | (with_reducible refine Kd.C_drewN ?_ _) | (with_reducible refine Kd.C_drew ?_)))
       (case side4 => exact (Kd.R_reads' HO329.out).2.1)
       rintro e w' ⟨rfl, ⟨nd, rfl⟩⟩
       refine ⟨_, rfl, ?_⟩
       refine hK.out _ _ ⟨(blk_cell BK318.out 0).trans rfl, (blk_cell BK318.out 1).trans rfl, (blk_cell BK319.out 0).trans rfl, (blk_cell BK319.out 1).trans rfl⟩ (fun hHeld => ?_)
       clear hK K
       refine norm_ (a' := ?_) ?_ ?_
       rotate_left
       ·show Act.put _ (some 36) _ = _
        simp only [Act.put, List.setIfInBounds_toArray, List.set_cons_zero, List.set_cons_succ, i64_w, i32_w]
        rfl
       refine pure_ (i := 7) (N := some 9) (v := ?_) (a' := ?_) #[true, true, true, true, true, true, true, true] rfl rfl (any_of HT_.out (by kernel_rfl)) (fun _ _ _ h => h) (Or.inl ⟨by rfl, ?_⟩) ?_ ?_
       rotate_left
       ·intro w'
        go_simp
        with_reducible rfl
       rotate_left
       ·simp only [Act.put, List.setIfInBounds_toArray, List.set_cons_zero, List.set_cons_succ, i64_w, i32_w]
        rfl
       refine done_ (done_of HT_.out (by kernel_rfl)) ?_
       try go_wp2
       (try (rw [drewN_self w39]; generalize hq_ : World.drewN w39 _ = w39; have n0_ : Aside0 (Kd.R (Kd.int .i64) 3 w39 w.heap.size (fun k_ => some k_ ≠ (.slice Ao41 t327.length co41 : Value).ownBlock) (.slice Ao40 t324.length co40) t324) := ⟨by rw [← hq_]; exact (by (with_reducible repeat (first | apply Kd.R_alloc | apply Kd.R_drewN | apply Kd.R_drew)); exact Kd.R_mono HO326.out (fun _ hk => hk.2))⟩; have n1_ : Aside0 (Kd.R (Kd.int .i64) 3 w39 w.heap.size (fun k_ => some k_ ≠ (.slice Ao40 t324.length co40 : Value).ownBlock) (.slice Ao41 t327.length co41) t327) := ⟨by rw [← hq_]; exact (by (with_reducible repeat (first | apply Kd.R_alloc | apply Kd.R_drewN | apply Kd.R_drew)); exact Kd.R_mono HO329.out (fun _ hk => hk.2))⟩; have n2_ : Aside0 (w39.heap[gb318]? = some (.cells #[.int .i64 a2_0, .slice A2_1 l2_1.length c2_1] 32 (0, 0))) := ⟨by rw [← hq_]; exact (by (with_reducible repeat (first | refine blk_drewN ?_ _ | refine blk_drew ?_ | refine blk_alloc ?_ _)); exact BK318.out)⟩; have n3_ : Aside0 (w39.heap[gb319]? = some (.cells #[.int .i64 a3_0, .slice A3_1 l3_1.length c3_1] 32 (0, 0))) := ⟨by rw [← hq_]; exact (by (with_reducible repeat (first | refine blk_drewN ?_ _ | refine blk_drew ?_ | refine blk_alloc ?_ _)); exact BK319.out)⟩; have n4_ : Aside0 (Below w.heap.size w w39) := ⟨by rw [← hq_]; exact (by repeat (first | (with_reducible first | exact HB.out | apply below_alloc | apply pw_below_drewN | apply below_drew1 | refine below_set ?_ GE318.out | refine below_set ?_ GE319.out) | exact HB.out))⟩; clear HO326 HO329 BK318 BK319 HB hq_; have HO326 := n0_; have HO329 := n1_; have BK318 := n2_; have BK319 := n3_; have HB := n4_; clear n0_ n1_ n2_ n3_ n4_))
       have n0_ := Aside0.mk (Kd.R_drew HO326.out)
       have n1_ := Aside0.mk (Kd.R_drew HO329.out)
       have n2_ := Aside0.mk (blk_drew BK318.out)
       have n3_ := Aside0.mk (blk_drew BK319.out)
       have n4_ := Aside0.mk (below_drew1 HB.out)
       clear HO326
       clear HO329
       clear BK318
       clear BK319
       clear HB
       have HO326 := n0_
       have HO329 := n1_
       have BK318 := n2_
       have BK319 := n3_
       have HB := n4_
       clear n0_ n1_ n2_ n3_ n4_
       refine start_ (n := 10) (S := fun w' => w'.cell? ⟨gb318, 0, none⟩ = some (.int .i64 a2_0) ∧ w'.cell? ⟨gb318, 1, none⟩ = some (.slice A2_1 l2_1.length c2_1) ∧ w'.cell? ⟨gb319, 0, none⟩ = some (.int .i64 a3_0) ∧ w'.cell? ⟨gb319, 1, none⟩ = some (.slice A3_1 l3_1.length c3_1)) (ds := []) #[false, false, false, false, false, false, false, false, false, false] (by kernel_rfl) rfl rfl ⟨(blk_cell BK318.out 0).trans rfl, (blk_cell BK318.out 1).trans rfl, (blk_cell BK319.out 0).trans rfl, (blk_cell BK319.out 1).trans rfl⟩ (fun hHeld => ?_); refine with_tabW intarsiaref26_Less.tab6 intarsiaref26_Less.bits6 (fun HT_ HW_ => ?_)
       generalize w39.drew = w42 at HO326 HO329 BK318 BK319 HB hHeld ⊢
       refine pure_ (i := 0) (N := some 41) (v := ?_) (a' := ?_) #[true, false, false, false, false, false, false, false, false, false] rfl rfl (any_of HT_.out (by kernel_rfl)) (fun _ _ _ h => h) (Or.inl ⟨by rfl, ?_⟩) ?_ ?_
       rotate_left
       ·intro w'
        go_simp
        with_reducible rfl
       rotate_left
       ·simp only [Act.put, List.setIfInBounds_toArray, List.set_cons_zero, List.set_cons_succ, i64_w, i32_w]
        rfl
       refine pure_ (i := 1) (N := some 42) (v := ?_) (a' := ?_) #[true, true, false, false, false, false, false, false, false, false] rfl rfl (any_of HT_.out (by kernel_rfl)) (fun _ _ _ h => h) (Or.inl ⟨by rfl, ?_⟩) ?_ ?_
       rotate_left
       ·intro w'
        go_simp
        with_reducible rfl
       rotate_left
       ·simp only [Act.put, List.setIfInBounds_toArray, List.set_cons_zero, List.set_cons_succ, i64_w, i32_w]
        rfl
       refine pure_ (i := 4) (N := some 45) (v := ?_) (a' := ?_) #[true, true, false, false, true, false, false, false, false, false] rfl rfl (any_of HT_.out (by kernel_rfl)) (fun _ _ _ h => h) (Or.inl ⟨by rfl, ?_⟩) ?_ ?_
       rotate_left
       ·intro w'
        go_simp
        with_reducible rfl
       rotate_left
       ·simp only [Act.put, List.setIfInBounds_toArray, List.set_cons_zero, List.set_cons_succ, i64_w, i32_w]
        rfl
       refine pure_ (i := 5) (N := some 46) (v := ?_) (a' := ?_) #[true, true, false, false, true, true, false, false, false, false] rfl rfl (any_of HT_.out (by kernel_rfl)) (fun _ _ _ h => h) (Or.inl ⟨by rfl, ?_⟩) ?_ ?_
       rotate_left
       ·intro w'
        go_simp
        with_reducible rfl
       rotate_left
       ·simp only [Act.put, List.setIfInBounds_toArray, List.set_cons_zero, List.set_cons_succ, i64_w, i32_w]
        rfl
       refine take_ (i := 2) (N := some 43) (v := ?_) (a' := ?_) #[true, true, true, false, true, true, false, false, false, false] rfl rfl (take_ofW HT_.out HW_.out (by kernel_rfl)) (fun _ _ _ h => h) (Or.inl ⟨by rfl, ?_⟩) hHeld ?_ ?_
       rotate_left
       ·rintro w' ⟨s0, s1, s2, s3⟩
        go_simp
        with_reducible rfl
       rotate_left
       ·simp only [Act.put, List.setIfInBounds_toArray, List.set_cons_zero, List.set_cons_succ, i64_w, i32_w]
        rfl
       refine take_ (i := 6) (N := some 47) (v := ?_) (a' := ?_) #[true, true, true, false, true, true, true, false, false, false] rfl rfl (take_ofW HT_.out HW_.out (by kernel_rfl)) (fun _ _ _ h => h) (Or.inl ⟨by rfl, ?_⟩) hHeld ?_ ?_
       rotate_left
       ·rintro w' ⟨s0, s1, s2, s3⟩
        go_simp
        with_reducible rfl
       rotate_left
       ·simp only [Act.put, List.setIfInBounds_toArray, List.set_cons_zero, List.set_cons_succ, i64_w, i32_w]
        rfl
       refine one_ (i := 3) (N := some 44) #[true, true, true, true, true, true, true, false, false, false] rfl rfl (one_of HT_.out (by kernel_rfl)) (by decide) (fun K hK => ?_)
       refine goes_ Try.func27 (by kernel_rfl) rfl #[.slice A0 l0.length c0, .int .i64 a2_0] (by rfl) rfl rfl (by (try simp only [List.map_toArray, List.map_cons, List.map_nil]); first | done | rfl | (simp only [List.length_drop, List.length_take]; rfl)) ?_
       with_reducible refine (intarsiaref26_strength.calls kj4 _ _ l0 a2_0 t331 _ ?side1 ?side2 A21.out).mono ?_
       (case side1 => repeat (first | exact (Kd.C_below HR0.out HB.out) | (with_reducible refine Kd.C_alloc ?_ _) | (with_reducible refine Kd.C_drewN ?_ _) | (with_reducible refine Kd.C_drew ?_)))
       (case side2 => exact HC0.out)
       rintro e w43 ⟨rfl, hb⟩
       refine ⟨_, rfl, ?_⟩
       have n0_ := Aside0.mk (Kd.R_below (by (with_reducible repeat (first | apply Kd.R_alloc | apply Kd.R_drewN | apply Kd.R_drew)); exact HO326.out) hb)
       have n1_ := Aside0.mk (Kd.R_below (by (with_reducible repeat (first | apply Kd.R_alloc | apply Kd.R_drewN | apply Kd.R_drew)); exact HO329.out) hb)
       have n2_ := Aside0.mk (blk_below (g := gb318) (o := .cells #[.int .i64 a2_0, .slice A2_1 l2_1.length c2_1] 32 (0, 0)) (by (with_reducible repeat (first | refine blk_drewN ?_ _ | refine blk_drew ?_ | refine blk_alloc ?_ _)); exact BK318.out) hb)
       have n3_ := Aside0.mk (blk_below (g := gb319) (o := .cells #[.int .i64 a3_0, .slice A3_1 l3_1.length c3_1] 32 (0, 0)) (by (with_reducible repeat (first | refine blk_drewN ?_ _ | refine blk_drew ?_ | refine blk_alloc ?_ _)); exact BK319.out) hb)
       have n4_ := Aside0.mk (below_step (by repeat (first | (with_reducible first | exact HB.out | apply below_alloc | apply pw_below_drewN | apply below_drew1 | refine below_set ?_ GE318.out | refine below_set ?_ GE319.out) | exact HB.out)) hb)
       clear HO326
       clear HO329
       clear BK318
       clear BK319
       clear HB
       have HO326 := n0_
       have HO329 := n1_
       have BK318 := n2_
       have BK319 := n3_
       have HB := n4_
       clear n0_ n1_ n2_ n3_ n4_
       (try clear hb)
       (try clear hb2)
       (try clear hk)
       (try clear hi)
       refine hK.out _ _ ⟨(blk_cell BK318.out 0).trans rfl, (blk_cell BK318.out 1).trans rfl, (blk_cell BK319.out 0).trans rfl, (blk_cell BK319.out 1).trans rfl⟩ (fun hHeld => ?_)
       clear hK K
       refine norm_ (a' := ?_) ?_ ?_
       rotate_left
       ·show Act.put _ (some 44) _ = _
        simp only [Act.put, List.setIfInBounds_toArray, List.set_cons_zero, List.set_cons_succ, i64_w, i32_w]
        rfl
       refine one_ (i := 7) (N := some 48) #[true, true, true, true, true, true, true, true, false, false] rfl rfl (one_of HT_.out (by kernel_rfl)) (by decide) (fun K hK => ?_)
       refine goes_ Try.func27 (by kernel_rfl) rfl #[.slice A0 l0.length c0, .int .i64 a3_0] (by rfl) rfl rfl (by (try simp only [List.map_toArray, List.map_cons, List.map_nil]); first | done | rfl | (simp only [List.length_drop, List.length_take]; rfl)) ?_
       with_reducible refine (intarsiaref26_strength.calls kj4 _ _ l0 a3_0 t332 _ ?side1 ?side2 A22.out).mono ?_
       (case side1 => repeat (first | exact (Kd.C_below HR0.out HB.out) | (with_reducible refine Kd.C_alloc ?_ _) | (with_reducible refine Kd.C_drewN ?_ _) | (with_reducible refine Kd.C_drew ?_)))
       (case side2 => exact HC0.out)
       rintro e w44 ⟨rfl, hb⟩
       refine ⟨_, rfl, ?_⟩
       have n0_ := Aside0.mk (Kd.R_below (by (with_reducible repeat (first | apply Kd.R_alloc | apply Kd.R_drewN | apply Kd.R_drew)); exact HO326.out) hb)
       have n1_ := Aside0.mk (Kd.R_below (by (with_reducible repeat (first | apply Kd.R_alloc | apply Kd.R_drewN | apply Kd.R_drew)); exact HO329.out) hb)
       have n2_ := Aside0.mk (blk_below (g := gb318) (o := .cells #[.int .i64 a2_0, .slice A2_1 l2_1.length c2_1] 32 (0, 0)) (by (with_reducible repeat (first | refine blk_drewN ?_ _ | refine blk_drew ?_ | refine blk_alloc ?_ _)); exact BK318.out) hb)
       have n3_ := Aside0.mk (blk_below (g := gb319) (o := .cells #[.int .i64 a3_0, .slice A3_1 l3_1.length c3_1] 32 (0, 0)) (by (with_reducible repeat (first | refine blk_drewN ?_ _ | refine blk_drew ?_ | refine blk_alloc ?_ _)); exact BK319.out) hb)
       have n4_ := Aside0.mk (below_step (by repeat (first | (with_reducible first | exact HB.out | apply below_alloc | apply pw_below_drewN | apply below_drew1 | refine below_set ?_ GE318.out | refine below_set ?_ GE319.out) | exact HB.out)) hb)
       clear HO326
       clear HO329
       clear BK318
       clear BK319
       clear HB
       have HO326 := n0_
       have HO329 := n1_
       have BK318 := n2_
       have BK319 := n3_
       have HB := n4_
       clear n0_ n1_ n2_ n3_ n4_
       (try clear hb)
       (try clear hb2)
       (try clear hk)
       (try clear hi)
       refine hK.out _ _ ⟨(blk_cell BK318.out 0).trans rfl, (blk_cell BK318.out 1).trans rfl, (blk_cell BK319.out 0).trans rfl, (blk_cell BK319.out 1).trans rfl⟩ (fun hHeld => ?_)
       clear hK K
       refine norm_ (a' := ?_) ?_ ?_
       rotate_left
       ·show Act.put _ (some 48) _ = _
        simp only [Act.put, List.setIfInBounds_toArray, List.set_cons_zero, List.set_cons_succ, i64_w, i32_w]
        rfl
       refine pure_ (i := 8) (N := some 10) (v := ?_) (a' := ?_) #[true, true, true, true, true, true, true, true, true, false] rfl rfl (any_of HT_.out (by kernel_rfl)) (fun _ _ _ h => h) (Or.inl ⟨by rfl, ?_⟩) ?_ ?_
       rotate_left
       ·intro w'
        go_simp
        with_reducible rfl
       rotate_left
       ·simp only [Act.put, List.setIfInBounds_toArray, List.set_cons_zero, List.set_cons_succ, i64_w, i32_w]
        rfl
       refine pure_ (i := 9) (N := some 11) (v := ?_) (a' := ?_) #[true, true, true, true, true, true, true, true, true, true] rfl rfl (any_of HT_.out (by kernel_rfl)) (fun _ _ _ h => h) (Or.inl ⟨by rfl, ?_⟩) ?_ ?_
       rotate_left
       ·intro w'
        go_simp
        with_reducible rfl
       rotate_left
       ·simp only [Act.put, List.setIfInBounds_toArray, List.set_cons_zero, List.set_cons_succ, i64_w, i32_w]
        rfl
       refine done_ (done_of HT_.out (by kernel_rfl)) ?_
       have hnb45 := NB318_319.out
       have hnc45 := NB319_318.out
       have hcz46_0 : w44.cell? ⟨gb318, 0, none⟩ = some (.int .i64 a2_0) := (blk_cell BK318.out 0).trans rfl
       have hcz46_1 : w44.cell? ⟨gb318, 1, none⟩ = some (.slice A2_1 l2_1.length c2_1) := (blk_cell BK318.out 1).trans rfl
       have hfz46_0 := blk_frozen BK318.out 0
       have hfz46_1 := blk_frozen BK318.out 1
       have hcz47_0 : w44.cell? ⟨gb319, 0, none⟩ = some (.int .i64 a3_0) := (blk_cell BK319.out 0).trans rfl
       have hcz47_1 : w44.cell? ⟨gb319, 1, none⟩ = some (.slice A3_1 l3_1.length c3_1) := (blk_cell BK319.out 1).trans rfl
       have hfz47_0 := blk_frozen BK319.out 0
       have hfz47_1 := blk_frozen BK319.out 1
       try go_wp2
       go_ret
       exact ⟨by first | rfl | (simp [errW_none, errW_some] <;> rfl) | (simp [*, errW_none, errW_some] <;> rfl), by repeat (first | (with_reducible first | exact HB.out | apply below_alloc | apply pw_below_drewN | apply below_drew1 | refine below_set ?_ GE318.out | refine below_set ?_ GE319.out) | exact HB.out)⟩
     ·rw [if_neg c23] at H
      have c23b0 : (t331 == t332) = false := beq_eq_false_iff_ne.mpr c23
      have c23b1 : (t331 != t332) = true := bne_iff_ne.mpr c23
      obtain rfl := Option.some.inj H
      try go_wp2
      have n0_ := Aside0.mk (blk_drew BK318.out)
      have n1_ := Aside0.mk (blk_drew BK319.out)
      have n2_ := Aside0.mk (below_drew1 HB.out)
      clear BK318
      clear BK319
      clear HB
      have BK318 := n0_
      have BK319 := n1_
      have HB := n2_
      clear n0_ n1_ n2_
      refine start_ (n := 8) (S := fun w' => w'.cell? ⟨gb318, 0, none⟩ = some (.int .i64 a2_0) ∧ w'.cell? ⟨gb318, 1, none⟩ = some (.slice A2_1 l2_1.length c2_1) ∧ w'.cell? ⟨gb319, 0, none⟩ = some (.int .i64 a3_0) ∧ w'.cell? ⟨gb319, 1, none⟩ = some (.slice A3_1 l3_1.length c3_1)) (ds := []) #[false, false, false, false, false, false, false, false] (by kernel_rfl) rfl rfl ⟨(blk_cell BK318.out 0).trans rfl, (blk_cell BK318.out 1).trans rfl, (blk_cell BK319.out 0).trans rfl, (blk_cell BK319.out 1).trans rfl⟩ (fun hHeld => ?_); refine with_tabW intarsiaref26_Less.tab3 intarsiaref26_Less.bits3 (fun HT_ HW_ => ?_)
      generalize wc.drew = w48 at BK318 BK319 HB hHeld ⊢
      refine pure_ (i := 0) (N := some 30) (v := ?_) (a' := ?_) #[true, false, false, false, false, false, false, false] rfl rfl (any_of HT_.out (by kernel_rfl)) (fun _ _ _ h => h) (Or.inl ⟨by rfl, ?_⟩) ?_ ?_
      rotate_left
      ·intro w'
       go_simp
       with_reducible rfl
      rotate_left
      ·simp only [Act.put, List.setIfInBounds_toArray, List.set_cons_zero, List.set_cons_succ, i64_w, i32_w]
       rfl
      refine pure_ (i := 3) (N := some 33) (v := ?_) (a' := ?_) #[true, false, false, true, false, false, false, false] rfl rfl (any_of HT_.out (by kernel_rfl)) (fun _ _ _ h => h) (Or.inl ⟨by rfl, ?_⟩) ?_ ?_
      rotate_left
      ·intro w'
       go_simp
       with_reducible rfl
      rotate_left
      ·simp only [Act.put, List.setIfInBounds_toArray, List.set_cons_zero, List.set_cons_succ, i64_w, i32_w]
       rfl
      refine take_ (i := 1) (N := some 31) (v := ?_) (a' := ?_) #[true, true, false, true, false, false, false, false] rfl rfl (take_ofW HT_.out HW_.out (by kernel_rfl)) (fun _ _ _ h => h) (Or.inl ⟨by rfl, ?_⟩) hHeld ?_ ?_
      rotate_left
      ·rintro w' ⟨s0, s1, s2, s3⟩
       go_simp
       with_reducible rfl
      rotate_left
      ·simp only [Act.put, List.setIfInBounds_toArray, List.set_cons_zero, List.set_cons_succ, i64_w, i32_w]
       rfl
      refine take_ (i := 4) (N := some 34) (v := ?_) (a' := ?_) #[true, true, false, true, true, false, false, false] rfl rfl (take_ofW HT_.out HW_.out (by kernel_rfl)) (fun _ _ _ h => h) (Or.inl ⟨by rfl, ?_⟩) hHeld ?_ ?_
      rotate_left
      ·rintro w' ⟨s0, s1, s2, s3⟩
       go_simp
       with_reducible rfl
      rotate_left
      ·simp only [Act.put, List.setIfInBounds_toArray, List.set_cons_zero, List.set_cons_succ, i64_w, i32_w]
       rfl
      refine one_ (i := 2) (N := some 32) #[true, true, true, true, true, false, false, false] rfl rfl (one_of HT_.out (by kernel_rfl)) (by decide) (fun K hK => ?_)
      refine goes_ Try.func16 (by kernel_rfl) rfl #[.slice A2_1 l2_1.length c2_1] (by rfl) rfl rfl (by (try simp only [List.map_toArray, List.map_cons, List.map_nil]); first | done | rfl | (simp only [List.length_drop, List.length_take]; rfl)) ?_
      with_reducible refine (intarsiaref26_Recency.calls _ _ l2_1 t324 _ ?side1 ?side2 A17.out).mono ?_
      (case side1 => repeat (first | exact (Kd.C_below HR2_1.out HB.out) | (with_reducible refine Kd.C_alloc ?_ _) | (with_reducible refine Kd.C_drewN ?_ _) | (with_reducible refine Kd.C_drew ?_)))
      (case side2 => exact HC2_1.out)
      rintro e w49 ⟨v325, rfl, ho0, hb⟩
      refine ⟨_, rfl, ?_⟩
      have n0_ := Aside0.mk (Kd.R_lower ho0 (below_size (by repeat (first | (with_reducible first | exact HB.out | apply below_alloc | apply pw_below_drewN | apply below_drew1 | refine below_set ?_ GE318.out | refine below_set ?_ GE319.out) | exact HB.out))))
      have n1_ := Aside0.mk (blk_below (g := gb318) (o := .cells #[.int .i64 a2_0, .slice A2_1 l2_1.length c2_1] 32 (0, 0)) (by (with_reducible repeat (first | refine blk_drewN ?_ _ | refine blk_drew ?_ | refine blk_alloc ?_ _)); exact BK318.out) hb)
      have n2_ := Aside0.mk (blk_below (g := gb319) (o := .cells #[.int .i64 a3_0, .slice A3_1 l3_1.length c3_1] 32 (0, 0)) (by (with_reducible repeat (first | refine blk_drewN ?_ _ | refine blk_drew ?_ | refine blk_alloc ?_ _)); exact BK319.out) hb)
      have n3_ := Aside0.mk (below_step (by repeat (first | (with_reducible first | exact HB.out | apply below_alloc | apply pw_below_drewN | apply below_drew1 | refine below_set ?_ GE318.out | refine below_set ?_ GE319.out) | exact HB.out)) hb)
      clear BK318
      clear BK319
      clear HB
      have HO326 := n0_
      have BK318 := n1_
      have BK319 := n2_
      have HB := n3_
      clear n0_ n1_ n2_ n3_
      (try clear hb)
      (try clear hb2)
      (try clear hk)
      (try clear hi)
      (try clear ho0)
      refine hK.out _ _ ⟨(blk_cell BK318.out 0).trans rfl, (blk_cell BK318.out 1).trans rfl, (blk_cell BK319.out 0).trans rfl, (blk_cell BK319.out 1).trans rfl⟩ (fun hHeld => ?_)
      clear hK K
      refine norm_ (a' := ?_) ?_ ?_
      rotate_left
      ·show Act.put _ (some 32) _ = _
       simp only [Act.put, List.setIfInBounds_toArray, List.set_cons_zero, List.set_cons_succ, i64_w, i32_w]
       rfl
      refine one_ (i := 5) (N := some 35) #[true, true, true, true, true, true, false, false] rfl rfl (one_of HT_.out (by kernel_rfl)) (by decide) (fun K hK => ?_)
      refine goes_ Try.func16 (by kernel_rfl) rfl #[.slice A3_1 l3_1.length c3_1] (by rfl) rfl rfl (by (try simp only [List.map_toArray, List.map_cons, List.map_nil]); first | done | rfl | (simp only [List.length_drop, List.length_take]; rfl)) ?_
      with_reducible refine (intarsiaref26_Recency.calls _ _ l3_1 t327 _ ?side1 ?side2 A18.out).mono ?_
      (case side1 => repeat (first | exact (Kd.C_below HR3_1.out HB.out) | (with_reducible refine Kd.C_alloc ?_ _) | (with_reducible refine Kd.C_drewN ?_ _) | (with_reducible refine Kd.C_drew ?_)))
      (case side2 => exact HC3_1.out)
      rintro e w50 ⟨v328, rfl, ho0, hb⟩
      refine ⟨_, rfl, ?_⟩
      have n0_ := Aside0.mk (Kd.R_elder' (by (with_reducible repeat (first | apply Kd.R_alloc | apply Kd.R_drewN | apply Kd.R_drew)); exact HO326.out) (Kd.R_base ho0) hb)
      have n1_ := Aside0.mk (Kd.R_lower (Kd.R_new' ho0 (Kd.R_lt (by (with_reducible repeat (first | apply Kd.R_alloc | apply Kd.R_drewN | apply Kd.R_drew)); exact HO326.out))) (below_size (by repeat (first | (with_reducible first | exact HB.out | apply below_alloc | apply pw_below_drewN | apply below_drew1 | refine below_set ?_ GE318.out | refine below_set ?_ GE319.out) | exact HB.out))))
      have n2_ := Aside0.mk (blk_below (g := gb318) (o := .cells #[.int .i64 a2_0, .slice A2_1 l2_1.length c2_1] 32 (0, 0)) (by (with_reducible repeat (first | refine blk_drewN ?_ _ | refine blk_drew ?_ | refine blk_alloc ?_ _)); exact BK318.out) hb)
      have n3_ := Aside0.mk (blk_below (g := gb319) (o := .cells #[.int .i64 a3_0, .slice A3_1 l3_1.length c3_1] 32 (0, 0)) (by (with_reducible repeat (first | refine blk_drewN ?_ _ | refine blk_drew ?_ | refine blk_alloc ?_ _)); exact BK319.out) hb)
      have n4_ := Aside0.mk (below_step (by repeat (first | (with_reducible first | exact HB.out | apply below_alloc | apply pw_below_drewN | apply below_drew1 | refine below_set ?_ GE318.out | refine below_set ?_ GE319.out) | exact HB.out)) hb)
      clear HO326
      clear BK318
      clear BK319
      clear HB
      have HO326 := n0_
      have HO329 := n1_
      have BK318 := n2_
      have BK319 := n3_
      have HB := n4_
      clear n0_ n1_ n2_ n3_ n4_
      (try clear hb)
      (try clear hb2)
      (try clear hk)
      (try clear hi)
      (try clear ho0)
      obtain ⟨Ao51, co51, eo51⟩ := Kd.R_slice HO326.out
      (first | subst eo51 | (injection eo51 with f1_ f2_ f3_; have f4_ := f1_.symm; have f5_ := f3_.symm; clear f1_ f2_ f3_; subst f4_; subst f5_))
      obtain ⟨Ao52, co52, eo52⟩ := Kd.R_slice HO329.out
      (first | subst eo52 | (injection eo52 with f1_ f2_ f3_; have f4_ := f1_.symm; have f5_ := f3_.symm; clear f1_ f2_ f3_; subst f4_; subst f5_))
      refine hK.out _ _ ⟨(blk_cell BK318.out 0).trans rfl, (blk_cell BK318.out 1).trans rfl, (blk_cell BK319.out 0).trans rfl, (blk_cell BK319.out 1).trans rfl⟩ (fun hHeld => ?_)
      clear hK K
      refine norm_ (a' := ?_) ?_ ?_
      rotate_left
      ·show Act.put _ (some 35) _ = _
       simp only [Act.put, List.setIfInBounds_toArray, List.set_cons_zero, List.set_cons_succ, i64_w, i32_w]
       rfl
      refine one_ (i := 6) (N := some 36) #[true, true, true, true, true, true, true, false] rfl rfl (one_of HT_.out (by kernel_rfl)) (by decide) (fun K hK => ?_)
      refine goes_ Try.func26 (by kernel_rfl) rfl #[.slice Ao51 t324.length co51, .slice Ao52 t327.length co52] (by rfl) rfl rfl (by (try simp only [List.map_toArray, List.map_cons, List.map_nil]); first | done | rfl | (simp only [List.length_drop, List.length_take]; rfl)) ?_
      with_reducible refine (intarsiaref26_recent.calls kj4 _ _ t324 _ _ t327 t330 _ ?side1 ?side2 ?side3 ?side4 A19.out).mono ?_
      (case side1 => repeat (first | exact (Kd.R_reads' HO326.out).2.2 | (with_reducible refine Kd.C_alloc ?_ _) | (with_reducible refine Kd.C_drewN ?_ _) | (with_reducible refine Kd.C_drew ?_)))
      (case side2 => exact (Kd.R_reads' HO326.out).2.1)
      (case side3 => repeat (first | exact (Kd.R_reads' HO329.out).2.2 | (with_reducible refine Kd.C_alloc ?_ _) | (with_reducible refine Kd.C_drewN ?_ _) | (with_reducible refine Kd.C_drew ?_)))
      (case side4 => exact (Kd.R_reads' HO329.out).2.1)
      rintro e w' ⟨rfl, ⟨nd, rfl⟩⟩
      refine ⟨_, rfl, ?_⟩
      refine hK.out _ _ ⟨(blk_cell BK318.out 0).trans rfl, (blk_cell BK318.out 1).trans rfl, (blk_cell BK319.out 0).trans rfl, (blk_cell BK319.out 1).trans rfl⟩ (fun hHeld => ?_)
      clear hK K
      refine norm_ (a' := ?_) ?_ ?_
      rotate_left
      ·show Act.put _ (some 36) _ = _
       simp only [Act.put, List.setIfInBounds_toArray, List.set_cons_zero, List.set_cons_succ, i64_w, i32_w]
       rfl
      refine pure_ (i := 7) (N := some 9) (v := ?_) (a' := ?_) #[true, true, true, true, true, true, true, true] rfl rfl (any_of HT_.out (by kernel_rfl)) (fun _ _ _ h => h) (Or.inl ⟨by rfl, ?_⟩) ?_ ?_
      rotate_left
      ·intro w'
       go_simp
       with_reducible rfl
      rotate_left
      ·simp only [Act.put, List.setIfInBounds_toArray, List.set_cons_zero, List.set_cons_succ, i64_w, i32_w]
       rfl
      refine done_ (done_of HT_.out (by kernel_rfl)) ?_
      try go_wp2
      (try (rw [drewN_self w50]; generalize hq_ : World.drewN w50 _ = w50; have n0_ : Aside0 (Kd.R (Kd.int .i64) 3 w50 w.heap.size (fun k_ => some k_ ≠ (.slice Ao52 t327.length co52 : Value).ownBlock) (.slice Ao51 t324.length co51) t324) := ⟨by rw [← hq_]; exact (by (with_reducible repeat (first | apply Kd.R_alloc | apply Kd.R_drewN | apply Kd.R_drew)); exact Kd.R_mono HO326.out (fun _ hk => hk.2))⟩; have n1_ : Aside0 (Kd.R (Kd.int .i64) 3 w50 w.heap.size (fun k_ => some k_ ≠ (.slice Ao51 t324.length co51 : Value).ownBlock) (.slice Ao52 t327.length co52) t327) := ⟨by rw [← hq_]; exact (by (with_reducible repeat (first | apply Kd.R_alloc | apply Kd.R_drewN | apply Kd.R_drew)); exact Kd.R_mono HO329.out (fun _ hk => hk.2))⟩; have n2_ : Aside0 (w50.heap[gb318]? = some (.cells #[.int .i64 a2_0, .slice A2_1 l2_1.length c2_1] 32 (0, 0))) := ⟨by rw [← hq_]; exact (by (with_reducible repeat (first | refine blk_drewN ?_ _ | refine blk_drew ?_ | refine blk_alloc ?_ _)); exact BK318.out)⟩; have n3_ : Aside0 (w50.heap[gb319]? = some (.cells #[.int .i64 a3_0, .slice A3_1 l3_1.length c3_1] 32 (0, 0))) := ⟨by rw [← hq_]; exact (by (with_reducible repeat (first | refine blk_drewN ?_ _ | refine blk_drew ?_ | refine blk_alloc ?_ _)); exact BK319.out)⟩; have n4_ : Aside0 (Below w.heap.size w w50) := ⟨by rw [← hq_]; exact (by repeat (first | (with_reducible first | exact HB.out | apply below_alloc | apply pw_below_drewN | apply below_drew1 | refine below_set ?_ GE318.out | refine below_set ?_ GE319.out) | exact HB.out))⟩; clear HO326 HO329 BK318 BK319 HB hq_; have HO326 := n0_; have HO329 := n1_; have BK318 := n2_; have BK319 := n3_; have HB := n4_; clear n0_ n1_ n2_ n3_ n4_))
      have n0_ := Aside0.mk (Kd.R_drew HO326.out)
      have n1_ := Aside0.mk (Kd.R_drew HO329.out)
      have n2_ := Aside0.mk (blk_drew BK318.out)
      have n3_ := Aside0.mk (blk_drew BK319.out)
      have n4_ := Aside0.mk (below_drew1 HB.out)
      clear HO326
      clear HO329
      clear BK318
      clear BK319
      clear HB
      have HO326 := n0_
      have HO329 := n1_
      have BK318 := n2_
      have BK319 := n3_
      have HB := n4_
      clear n0_ n1_ n2_ n3_ n4_
      refine start_ (n := 10) (S := fun w' => w'.cell? ⟨gb318, 0, none⟩ = some (.int .i64 a2_0) ∧ w'.cell? ⟨gb318, 1, none⟩ = some (.slice A2_1 l2_1.length c2_1) ∧ w'.cell? ⟨gb319, 0, none⟩ = some (.int .i64 a3_0) ∧ w'.cell? ⟨gb319, 1, none⟩ = some (.slice A3_1 l3_1.length c3_1)) (ds := []) #[false, false, false, false, false, false, false, false, false, false] (by kernel_rfl) rfl rfl ⟨(blk_cell BK318.out 0).trans rfl, (blk_cell BK318.out 1).trans rfl, (blk_cell BK319.out 0).trans rfl, (blk_cell BK319.out 1).trans rfl⟩ (fun hHeld => ?_); refine with_tabW intarsiaref26_Less.tab6 intarsiaref26_Less.bits6 (fun HT_ HW_ => ?_)
      generalize w50.drew = w53 at HO326 HO329 BK318 BK319 HB hHeld ⊢
      refine pure_ (i := 0) (N := some 41) (v := ?_) (a' := ?_) #[true, false, false, false, false, false, false, false, false, false] rfl rfl (any_of HT_.out (by kernel_rfl)) (fun _ _ _ h => h) (Or.inl ⟨by rfl, ?_⟩) ?_ ?_
      rotate_left
      ·intro w'
       go_simp
       with_reducible rfl
      rotate_left
      ·simp only [Act.put, List.setIfInBounds_toArray, List.set_cons_zero, List.set_cons_succ, i64_w, i32_w]
       rfl
      refine pure_ (i := 1) (N := some 42) (v := ?_) (a' := ?_) #[true, true, false, false, false, false, false, false, false, false] rfl rfl (any_of HT_.out (by kernel_rfl)) (fun _ _ _ h => h) (Or.inl ⟨by rfl, ?_⟩) ?_ ?_
      rotate_left
      ·intro w'
       go_simp
       with_reducible rfl
      rotate_left
      ·simp only [Act.put, List.setIfInBounds_toArray, List.set_cons_zero, List.set_cons_succ, i64_w, i32_w]
       rfl
      refine pure_ (i := 4) (N := some 45) (v := ?_) (a' := ?_) #[true, true, false, false, true, false, false, false, false, false] rfl rfl (any_of HT_.out (by kernel_rfl)) (fun _ _ _ h => h) (Or.inl ⟨by rfl, ?_⟩) ?_ ?_
      rotate_left
      ·intro w'
       go_simp
       with_reducible rfl
      rotate_left
      ·simp only [Act.put, List.setIfInBounds_toArray, List.set_cons_zero, List.set_cons_succ, i64_w, i32_w]
       rfl
      refine pure_ (i := 5) (N := some 46) (v := ?_) (a' := ?_) #[true, true, false, false, true, true, false, false, false, false] rfl rfl (any_of HT_.out (by kernel_rfl)) (fun _ _ _ h => h) (Or.inl ⟨by rfl, ?_⟩) ?_ ?_
      rotate_left
      ·intro w'
       go_simp
       with_reducible rfl
      rotate_left
      ·simp only [Act.put, List.setIfInBounds_toArray, List.set_cons_zero, List.set_cons_succ, i64_w, i32_w]
       rfl
      refine take_ (i := 2) (N := some 43) (v := ?_) (a' := ?_) #[true, true, true, false, true, true, false, false, false, false] rfl rfl (take_ofW HT_.out HW_.out (by kernel_rfl)) (fun _ _ _ h => h) (Or.inl ⟨by rfl, ?_⟩) hHeld ?_ ?_
      rotate_left
      ·rintro w' ⟨s0, s1, s2, s3⟩
       go_simp
       with_reducible rfl
      rotate_left
      ·simp only [Act.put, List.setIfInBounds_toArray, List.set_cons_zero, List.set_cons_succ, i64_w, i32_w]
       rfl
      refine take_ (i := 6) (N := some 47) (v := ?_) (a' := ?_) #[true, true, true, false, true, true, true, false, false, false] rfl rfl (take_ofW HT_.out HW_.out (by kernel_rfl)) (fun _ _ _ h => h) (Or.inl ⟨by rfl, ?_⟩) hHeld ?_ ?_
      rotate_left
      ·rintro w' ⟨s0, s1, s2, s3⟩
       go_simp
       with_reducible rfl
      rotate_left
      ·simp only [Act.put, List.setIfInBounds_toArray, List.set_cons_zero, List.set_cons_succ, i64_w, i32_w]
       rfl
      refine one_ (i := 3) (N := some 44) #[true, true, true, true, true, true, true, false, false, false] rfl rfl (one_of HT_.out (by kernel_rfl)) (by decide) (fun K hK => ?_)
      refine goes_ Try.func27 (by kernel_rfl) rfl #[.slice A0 l0.length c0, .int .i64 a2_0] (by rfl) rfl rfl (by (try simp only [List.map_toArray, List.map_cons, List.map_nil]); first | done | rfl | (simp only [List.length_drop, List.length_take]; rfl)) ?_
      with_reducible refine (intarsiaref26_strength.calls kj4 _ _ l0 a2_0 t331 _ ?side1 ?side2 A21.out).mono ?_
      (case side1 => repeat (first | exact (Kd.C_below HR0.out HB.out) | (with_reducible refine Kd.C_alloc ?_ _) | (with_reducible refine Kd.C_drewN ?_ _) | (with_reducible refine Kd.C_drew ?_)))
      (case side2 => exact HC0.out)
      rintro e w54 ⟨rfl, hb⟩
      refine ⟨_, rfl, ?_⟩
      have n0_ := Aside0.mk (Kd.R_below (by (with_reducible repeat (first | apply Kd.R_alloc | apply Kd.R_drewN | apply Kd.R_drew)); exact HO326.out) hb)
      have n1_ := Aside0.mk (Kd.R_below (by (with_reducible repeat (first | apply Kd.R_alloc | apply Kd.R_drewN | apply Kd.R_drew)); exact HO329.out) hb)
      have n2_ := Aside0.mk (blk_below (g := gb318) (o := .cells #[.int .i64 a2_0, .slice A2_1 l2_1.length c2_1] 32 (0, 0)) (by (with_reducible repeat (first | refine blk_drewN ?_ _ | refine blk_drew ?_ | refine blk_alloc ?_ _)); exact BK318.out) hb)
      have n3_ := Aside0.mk (blk_below (g := gb319) (o := .cells #[.int .i64 a3_0, .slice A3_1 l3_1.length c3_1] 32 (0, 0)) (by (with_reducible repeat (first | refine blk_drewN ?_ _ | refine blk_drew ?_ | refine blk_alloc ?_ _)); exact BK319.out) hb)
      have n4_ := Aside0.mk (below_step (by repeat (first | (with_reducible first | exact HB.out | apply below_alloc | apply pw_below_drewN | apply below_drew1 | refine below_set ?_ GE318.out | refine below_set ?_ GE319.out) | exact HB.out)) hb)
      clear HO326
      clear HO329
      clear BK318
      clear BK319
      clear HB
      have HO326 := n0_
      have HO329 := n1_
      have BK318 := n2_
      have BK319 := n3_
      have HB := n4_
      clear n0_ n1_ n2_ n3_ n4_
      (try clear hb)
      (try clear hb2)
      (try clear hk)
      (try clear hi)
      refine hK.out _ _ ⟨(blk_cell BK318.out 0).trans rfl, (blk_cell BK318.out 1).trans rfl, (blk_cell BK319.out 0).trans rfl, (blk_cell BK319.out 1).trans rfl⟩ (fun hHeld => ?_)
      clear hK K
      refine norm_ (a' := ?_) ?_ ?_
      rotate_left
      ·show Act.put _ (some 44) _ = _
       simp only [Act.put, List.setIfInBounds_toArray, List.set_cons_zero, List.set_cons_succ, i64_w, i32_w]
       rfl
      refine one_ (i := 7) (N := some 48) #[true, true, true, true, true, true, true, true, false, false] rfl rfl (one_of HT_.out (by kernel_rfl)) (by decide) (fun K hK => ?_)
      refine goes_ Try.func27 (by kernel_rfl) rfl #[.slice A0 l0.length c0, .int .i64 a3_0] (by rfl) rfl rfl (by (try simp only [List.map_toArray, List.map_cons, List.map_nil]); first | done | rfl | (simp only [List.length_drop, List.length_take]; rfl)) ?_
      with_reducible refine (intarsiaref26_strength.calls kj4 _ _ l0 a3_0 t332 _ ?side1 ?side2 A22.out).mono ?_
      (case side1 => repeat (first | exact (Kd.C_below HR0.out HB.out) | (with_reducible refine Kd.C_alloc ?_ _) | (with_reducible refine Kd.C_drewN ?_ _) | (with_reducible refine Kd.C_drew ?_)))
      (case side2 => exact HC0.out)
      rintro e w55 ⟨rfl, hb⟩
      refine ⟨_, rfl, ?_⟩
      have n0_ := Aside0.mk (Kd.R_below (by (with_reducible repeat (first | apply Kd.R_alloc | apply Kd.R_drewN | apply Kd.R_drew)); exact HO326.out) hb)
      have n1_ := Aside0.mk (Kd.R_below (by (with_reducible repeat (first | apply Kd.R_alloc | apply Kd.R_drewN | apply Kd.R_drew)); exact HO329.out) hb)
      have n2_ := Aside0.mk (blk_below (g := gb318) (o := .cells #[.int .i64 a2_0, .slice A2_1 l2_1.length c2_1] 32 (0, 0)) (by (with_reducible repeat (first | refine blk_drewN ?_ _ | refine blk_drew ?_ | refine blk_alloc ?_ _)); exact BK318.out) hb)
      have n3_ := Aside0.mk (blk_below (g := gb319) (o := .cells #[.int .i64 a3_0, .slice A3_1 l3_1.length c3_1] 32 (0, 0)) (by (with_reducible repeat (first | refine blk_drewN ?_ _ | refine blk_drew ?_ | refine blk_alloc ?_ _)); exact BK319.out) hb)
      have n4_ := Aside0.mk (below_step (by repeat (first | (with_reducible first | exact HB.out | apply below_alloc | apply pw_below_drewN | apply below_drew1 | refine below_set ?_ GE318.out | refine below_set ?_ GE319.out) | exact HB.out)) hb)
      clear HO326
      clear HO329
      clear BK318
      clear BK319
      clear HB
      have HO326 := n0_
      have HO329 := n1_
      have BK318 := n2_
      have BK319 := n3_
      have HB := n4_
      clear n0_ n1_ n2_ n3_ n4_
      (try clear hb)
      (try clear hb2)
      (try clear hk)
      (try clear hi)
      refine hK.out _ _ ⟨(blk_cell BK318.out 0).trans rfl, (blk_cell BK318.out 1).trans rfl, (blk_cell BK319.out 0).trans rfl, (blk_cell BK319.out 1).trans rfl⟩ (fun hHeld => ?_)
      clear hK K
      refine norm_ (a' := ?_) ?_ ?_
      rotate_left
      ·show Act.put _ (some 48) _ = _
       simp only [Act.put, List.setIfInBounds_toArray, List.set_cons_zero, List.set_cons_succ, i64_w, i32_w]
       rfl
      refine pure_ (i := 8) (N := some 10) (v := ?_) (a' := ?_) #[true, true, true, true, true, true, true, true, true, false] rfl rfl (any_of HT_.out (by kernel_rfl)) (fun _ _ _ h => h) (Or.inl ⟨by rfl, ?_⟩) ?_ ?_
      rotate_left
      ·intro w'
       go_simp
       with_reducible rfl
      rotate_left
      ·simp only [Act.put, List.setIfInBounds_toArray, List.set_cons_zero, List.set_cons_succ, i64_w, i32_w]
       rfl
      refine pure_ (i := 9) (N := some 11) (v := ?_) (a' := ?_) #[true, true, true, true, true, true, true, true, true, true] rfl rfl (any_of HT_.out (by kernel_rfl)) (fun _ _ _ h => h) (Or.inl ⟨by rfl, ?_⟩) ?_ ?_
      rotate_left
      ·intro w'
       go_simp
       with_reducible rfl
      rotate_left
      ·simp only [Act.put, List.setIfInBounds_toArray, List.set_cons_zero, List.set_cons_succ, i64_w, i32_w]
       rfl
      refine done_ (done_of HT_.out (by kernel_rfl)) ?_
      try go_wp2
      go_ret
      exact ⟨by first | rfl | (simp [errW_none, errW_some] <;> rfl) | (simp [*, errW_none, errW_some] <;> rfl), by repeat (first | (with_reducible first | exact HB.out | apply below_alloc | apply pw_below_drewN | apply below_drew1 | refine below_set ?_ GE318.out | refine below_set ?_ GE319.out) | exact HB.out)⟩
    ·rw [if_neg c20] at H
     have c20b0 : (t330 == 0) = false := beq_eq_false_iff_ne.mpr c20
     have c20b1 : (t330 != 0) = true := bne_iff_ne.mpr c20
     obtain rfl := Option.some.inj H
     try go_wp2
     have n0_ := Aside0.mk (blk_drew BK318.out)
     have n1_ := Aside0.mk (blk_drew BK319.out)
     have n2_ := Aside0.mk (below_drew1 HB.out)
     clear BK318
     clear BK319
     clear HB
     have BK318 := n0_
     have BK319 := n1_
     have HB := n2_
     clear n0_ n1_ n2_
     refine start_ (n := 8) (S := fun w' => w'.cell? ⟨gb318, 0, none⟩ = some (.int .i64 a2_0) ∧ w'.cell? ⟨gb318, 1, none⟩ = some (.slice A2_1 l2_1.length c2_1) ∧ w'.cell? ⟨gb319, 0, none⟩ = some (.int .i64 a3_0) ∧ w'.cell? ⟨gb319, 1, none⟩ = some (.slice A3_1 l3_1.length c3_1)) (ds := []) #[false, false, false, false, false, false, false, false] (by kernel_rfl) rfl rfl ⟨(blk_cell BK318.out 0).trans rfl, (blk_cell BK318.out 1).trans rfl, (blk_cell BK319.out 0).trans rfl, (blk_cell BK319.out 1).trans rfl⟩ (fun hHeld => ?_); refine with_tabW intarsiaref26_Less.tab3 intarsiaref26_Less.bits3 (fun HT_ HW_ => ?_)
     generalize wc.drew = w56 at BK318 BK319 HB hHeld ⊢
     refine pure_ (i := 0) (N := some 30) (v := ?_) (a' := ?_) #[true, false, false, false, false, false, false, false] rfl rfl (any_of HT_.out (by kernel_rfl)) (fun _ _ _ h => h) (Or.inl ⟨by rfl, ?_⟩) ?_ ?_
     rotate_left
     ·intro w'
      go_simp
      with_reducible rfl
     rotate_left
     ·simp only [Act.put, List.setIfInBounds_toArray, List.set_cons_zero, List.set_cons_succ, i64_w, i32_w]
      rfl
     refine pure_ (i := 3) (N := some 33) (v := ?_) (a' := ?_) #[true, false, false, true, false, false, false, false] rfl rfl (any_of HT_.out (by kernel_rfl)) (fun _ _ _ h => h) (Or.inl ⟨by rfl, ?_⟩) ?_ ?_
     rotate_left
     ·intro w'
      go_simp
      with_reducible rfl
     rotate_left
     ·simp only [Act.put, List.setIfInBounds_toArray, List.set_cons_zero, List.set_cons_succ, i64_w, i32_w]
      rfl
     refine take_ (i := 1) (N := some 31) (v := ?_) (a' := ?_) #[true, true, false, true, false, false, false, false] rfl rfl (take_ofW HT_.out HW_.out (by kernel_rfl)) (fun _ _ _ h => h) (Or.inl ⟨by rfl, ?_⟩) hHeld ?_ ?_
     rotate_left
     ·rintro w' ⟨s0, s1, s2, s3⟩
      go_simp
      with_reducible rfl
     rotate_left
     ·simp only [Act.put, List.setIfInBounds_toArray, List.set_cons_zero, List.set_cons_succ, i64_w, i32_w]
      rfl
     refine take_ (i := 4) (N := some 34) (v := ?_) (a' := ?_) #[true, true, false, true, true, false, false, false] rfl rfl (take_ofW HT_.out HW_.out (by kernel_rfl)) (fun _ _ _ h => h) (Or.inl ⟨by rfl, ?_⟩) hHeld ?_ ?_
     rotate_left
     ·rintro w' ⟨s0, s1, s2, s3⟩
      go_simp
      with_reducible rfl
     rotate_left
     ·simp only [Act.put, List.setIfInBounds_toArray, List.set_cons_zero, List.set_cons_succ, i64_w, i32_w]
      rfl
     refine one_ (i := 2) (N := some 32) #[true, true, true, true, true, false, false, false] rfl rfl (one_of HT_.out (by kernel_rfl)) (by decide) (fun K hK => ?_)
     refine goes_ Try.func16 (by kernel_rfl) rfl #[.slice A2_1 l2_1.length c2_1] (by rfl) rfl rfl (by (try simp only [List.map_toArray, List.map_cons, List.map_nil]); first | done | rfl | (simp only [List.length_drop, List.length_take]; rfl)) ?_
     with_reducible refine (intarsiaref26_Recency.calls _ _ l2_1 t324 _ ?side1 ?side2 A17.out).mono ?_
     (case side1 => repeat (first | exact (Kd.C_below HR2_1.out HB.out) | (with_reducible refine Kd.C_alloc ?_ _) | (with_reducible refine Kd.C_drewN ?_ _) | (with_reducible refine Kd.C_drew ?_)))
     (case side2 => exact HC2_1.out)
     rintro e w57 ⟨v325, rfl, ho0, hb⟩
     refine ⟨_, rfl, ?_⟩
     have n0_ := Aside0.mk (Kd.R_lower ho0 (below_size (by repeat (first | (with_reducible first | exact HB.out | apply below_alloc | apply pw_below_drewN | apply below_drew1 | refine below_set ?_ GE318.out | refine below_set ?_ GE319.out) | exact HB.out))))
     have n1_ := Aside0.mk (blk_below (g := gb318) (o := .cells #[.int .i64 a2_0, .slice A2_1 l2_1.length c2_1] 32 (0, 0)) (by (with_reducible repeat (first | refine blk_drewN ?_ _ | refine blk_drew ?_ | refine blk_alloc ?_ _)); exact BK318.out) hb)
     have n2_ := Aside0.mk (blk_below (g := gb319) (o := .cells #[.int .i64 a3_0, .slice A3_1 l3_1.length c3_1] 32 (0, 0)) (by (with_reducible repeat (first | refine blk_drewN ?_ _ | refine blk_drew ?_ | refine blk_alloc ?_ _)); exact BK319.out) hb)
     have n3_ := Aside0.mk (below_step (by repeat (first | (with_reducible first | exact HB.out | apply below_alloc | apply pw_below_drewN | apply below_drew1 | refine below_set ?_ GE318.out | refine below_set ?_ GE319.out) | exact HB.out)) hb)
     clear BK318
     clear BK319
     clear HB
     have HO326 := n0_
     have BK318 := n1_
     have BK319 := n2_
     have HB := n3_
     clear n0_ n1_ n2_ n3_
     (try clear hb)
     (try clear hb2)
     (try clear hk)
     (try clear hi)
     (try clear ho0)
     refine hK.out _ _ ⟨(blk_cell BK318.out 0).trans rfl, (blk_cell BK318.out 1).trans rfl, (blk_cell BK319.out 0).trans rfl, (blk_cell BK319.out 1).trans rfl⟩ (fun hHeld => ?_)
     clear hK K
     refine norm_ (a' := ?_) ?_ ?_
     rotate_left
     ·show Act.put _ (some 32) _ = _
      simp only [Act.put, List.setIfInBounds_toArray, List.set_cons_zero, List.set_cons_succ, i64_w, i32_w]
      rfl
     refine one_ (i := 5) (N := some 35) #[true, true, true, true, true, true, false, false] rfl rfl (one_of HT_.out (by kernel_rfl)) (by decide) (fun K hK => ?_)
     refine goes_ Try.func16 (by kernel_rfl) rfl #[.slice A3_1 l3_1.length c3_1] (by rfl) rfl rfl (by (try simp only [List.map_toArray, List.map_cons, List.map_nil]); first | done | rfl | (simp only [List.length_drop, List.length_take]; rfl)) ?_
     with_reducible refine (intarsiaref26_Recency.calls _ _ l3_1 t327 _ ?side1 ?side2 A18.out).mono ?_
     (case side1 => repeat (first | exact (Kd.C_below HR3_1.out HB.out) | (with_reducible refine Kd.C_alloc ?_ _) | (with_reducible refine Kd.C_drewN ?_ _) | (with_reducible refine Kd.C_drew ?_)))
     (case side2 => exact HC3_1.out)
     rintro e w58 ⟨v328, rfl, ho0, hb⟩
     refine ⟨_, rfl, ?_⟩
     have n0_ := Aside0.mk (Kd.R_elder' (by (with_reducible repeat (first | apply Kd.R_alloc | apply Kd.R_drewN | apply Kd.R_drew)); exact HO326.out) (Kd.R_base ho0) hb)
     have n1_ := Aside0.mk (Kd.R_lower (Kd.R_new' ho0 (Kd.R_lt (by (with_reducible repeat (first | apply Kd.R_alloc | apply Kd.R_drewN | apply Kd.R_drew)); exact HO326.out))) (below_size (by repeat (first | (with_reducible first | exact HB.out | apply below_alloc | apply pw_below_drewN | apply below_drew1 | refine below_set ?_ GE318.out | refine below_set ?_ GE319.out) | exact HB.out))))
     have n2_ := Aside0.mk (blk_below (g := gb318) (o := .cells #[.int .i64 a2_0, .slice A2_1 l2_1.length c2_1] 32 (0, 0)) (by (with_reducible repeat (first | refine blk_drewN ?_ _ | refine blk_drew ?_ | refine blk_alloc ?_ _)); exact BK318.out) hb)
     have n3_ := Aside0.mk (blk_below (g := gb319) (o := .cells #[.int .i64 a3_0, .slice A3_1 l3_1.length c3_1] 32 (0, 0)) (by (with_reducible repeat (first | refine blk_drewN ?_ _ | refine blk_drew ?_ | refine blk_alloc ?_ _)); exact BK319.out) hb)
     have n4_ := Aside0.mk (below_step (by repeat (first | (with_reducible first | exact HB.out | apply below_alloc | apply pw_below_drewN | apply below_drew1 | refine below_set ?_ GE318.out | refine below_set ?_ GE319.out) | exact HB.out)) hb)
     clear HO326
     clear BK318
     clear BK319
     clear HB
     have HO326 := n0_
     have HO329 := n1_
     have BK318 := n2_
     have BK319 := n3_
     have HB := n4_
     clear n0_ n1_ n2_ n3_ n4_
     (try clear hb)
     (try clear hb2)
     (try clear hk)
     (try clear hi)
     (try clear ho0)
     obtain ⟨Ao59, co59, eo59⟩ := Kd.R_slice HO326.out
     (first | subst eo59 | (injection eo59 with f1_ f2_ f3_; have f4_ := f1_.symm; have f5_ := f3_.symm; clear f1_ f2_ f3_; subst f4_; subst f5_))
     obtain ⟨Ao60, co60, eo60⟩ := Kd.R_slice HO329.out
     (first | subst eo60 | (injection eo60 with f1_ f2_ f3_; have f4_ := f1_.symm; have f5_ := f3_.symm; clear f1_ f2_ f3_; subst f4_; subst f5_))
     refine hK.out _ _ ⟨(blk_cell BK318.out 0).trans rfl, (blk_cell BK318.out 1).trans rfl, (blk_cell BK319.out 0).trans rfl, (blk_cell BK319.out 1).trans rfl⟩ (fun hHeld => ?_)
     clear hK K
     refine norm_ (a' := ?_) ?_ ?_
     rotate_left
     ·show Act.put _ (some 35) _ = _
      simp only [Act.put, List.setIfInBounds_toArray, List.set_cons_zero, List.set_cons_succ, i64_w, i32_w]
      rfl
     refine one_ (i := 6) (N := some 36) #[true, true, true, true, true, true, true, false] rfl rfl (one_of HT_.out (by kernel_rfl)) (by decide) (fun K hK => ?_)
     refine goes_ Try.func26 (by kernel_rfl) rfl #[.slice Ao59 t324.length co59, .slice Ao60 t327.length co60] (by rfl) rfl rfl (by (try simp only [List.map_toArray, List.map_cons, List.map_nil]); first | done | rfl | (simp only [List.length_drop, List.length_take]; rfl)) ?_
     with_reducible refine (intarsiaref26_recent.calls kj4 _ _ t324 _ _ t327 t330 _ ?side1 ?side2 ?side3 ?side4 A19.out).mono ?_
     (case side1 => repeat (first | exact (Kd.R_reads' HO326.out).2.2 | (with_reducible refine Kd.C_alloc ?_ _) | (with_reducible refine Kd.C_drewN ?_ _) | (with_reducible refine Kd.C_drew ?_)))
     (case side2 => exact (Kd.R_reads' HO326.out).2.1)
     (case side3 => repeat (first | exact (Kd.R_reads' HO329.out).2.2 | (with_reducible refine Kd.C_alloc ?_ _) | (with_reducible refine Kd.C_drewN ?_ _) | (with_reducible refine Kd.C_drew ?_)))
     (case side4 => exact (Kd.R_reads' HO329.out).2.1)
     rintro e w' ⟨rfl, ⟨nd, rfl⟩⟩
     refine ⟨_, rfl, ?_⟩
     refine hK.out _ _ ⟨(blk_cell BK318.out 0).trans rfl, (blk_cell BK318.out 1).trans rfl, (blk_cell BK319.out 0).trans rfl, (blk_cell BK319.out 1).trans rfl⟩ (fun hHeld => ?_)
     clear hK K
     refine norm_ (a' := ?_) ?_ ?_
     rotate_left
     ·show Act.put _ (some 36) _ = _
      simp only [Act.put, List.setIfInBounds_toArray, List.set_cons_zero, List.set_cons_succ, i64_w, i32_w]
      rfl
     refine pure_ (i := 7) (N := some 9) (v := ?_) (a' := ?_) #[true, true, true, true, true, true, true, true] rfl rfl (any_of HT_.out (by kernel_rfl)) (fun _ _ _ h => h) (Or.inl ⟨by rfl, ?_⟩) ?_ ?_
     rotate_left
     ·intro w'
      go_simp
      with_reducible rfl
     rotate_left
     ·simp only [Act.put, List.setIfInBounds_toArray, List.set_cons_zero, List.set_cons_succ, i64_w, i32_w]
      rfl
     refine done_ (done_of HT_.out (by kernel_rfl)) ?_
     try go_wp2
     go_ret
     exact ⟨by first | rfl | (simp [errW_none, errW_some] <;> rfl) | (simp [*, errW_none, errW_some] <;> rfl), by repeat (first | (with_reducible first | exact HB.out | apply below_alloc | apply pw_below_drewN | apply below_drew1 | refine below_set ?_ GE318.out | refine below_set ?_ GE319.out) | exact HB.out)⟩

end Go.Proofs.Ytjkdfjkaeoklmaa.Q
namespace Go.Proofs.Ytjkdfjkaeoklmaa.Q
open Go.RowKit Go.Proofs.YtjkdfjkaeoklmaaW.PrintWords Go.Proofs.YtjkdfjkaeoklmaaW.PrintLast Go.Proofs.YtjkdfjkaeoklmaaW.PrintMore
set_option linter.unusedVariables false
set_option linter.unusedSimpArgs false
/-- Which of two numbers is the greater one. -/
def cmpI (a b : Int) : Int := if a < b then -1 else if a > b then 1 else 0
theorem cmpI_val (a b : Int) : cmp_Compare_int.f a b = some (cmpI a b) := by
  simp only [cmp_Compare_int.f, cmp_isNaN_int.f, cmpI, bne_self_eq_false, Option.bind_some]
  split
  · rename_i h; cases h
  · split <;> (try split) <;> rfl
/-- Numbers in a row, the first ones first. -/
def cmpL : List Int → List Int → Int
  | [], [] => 0
  | [], _ :: _ => -1
  | _ :: _, [] => 1
  | x :: l, y :: m => if cmpI x y = 0 then cmpL l m else cmpI x y
theorem rd_at {l : List Int} {i : Nat} (h : i < l.length) : rd l (i : Int) = l[i] := by simp [rd, h]
theorem one_round {α : Type} {g : Nat → Option α} {r : α} (h : ∀ k, g (k + 1) = some r) : Ev g r := ⟨1, fun k hk => by
  obtain ⟨m, rfl⟩ : ∃ m, k = m + 1 := ⟨k - 1, by omega⟩
  exact h m⟩
theorem cmpL_l0 (l m : List Int) (hb : l.length ≤ 9223372036854775807) : ∀ (n i : Nat), l.length - i = n → i ≤ l.length → Ev (fun k => slices_Compare_int_int.l0 k l m l (l.length : Int) (i : Int)) (cmpL (l.drop i) (m.drop i))
  | 0, i, hn, hi => by
    obtain rfl : i = l.length := by omega
    refine one_round (fun k => ?_)
    simp only [slices_Compare_int_int.l0]
    rw [if_neg (by omega), List.drop_length]
    by_cases h : l.length < m.length
    · rw [if_pos (by omega), List.drop_eq_getElem_cons h]; rfl
    · rw [if_neg (by omega), List.drop_of_length_le (by omega)]; rfl
  | n + 1, i, hn, hi => by
    have hlt : i < l.length := by omega
    by_cases hm : i < m.length
    · rw [List.drop_eq_getElem_cons hlt, List.drop_eq_getElem_cons hm, cmpL]
      by_cases hc : cmpI l[i] m[i] = 0
      · rw [if_pos hc]
        refine Ev.step (fun k => ?_) (cmpL_l0 l m hb n (i + 1) (by omega) (by omega))
        simp only [slices_Compare_int_int.l0]
        rw [if_pos (by omega), if_pos (by omega), if_pos (by omega), if_neg (by omega), if_pos (by omega), rd_at hlt, rd_at hm, cmpI_val, Option.bind_some, if_pos hc, w64 (by omega) (by omega)]
        rfl
      · rw [if_neg hc]
        refine one_round (fun k => ?_)
        simp only [slices_Compare_int_int.l0]
        rw [if_pos (by omega), if_pos (by omega), if_pos (by omega), if_neg (by omega), if_pos (by omega), rd_at hlt, rd_at hm, cmpI_val, Option.bind_some, if_neg hc]
    · rw [List.drop_eq_getElem_cons hlt, List.drop_of_length_le (show m.length ≤ i by omega), cmpL]
      refine one_round (fun k => ?_)
      simp only [slices_Compare_int_int.l0]
      rw [if_pos (by omega), if_pos (by omega), if_pos (by omega), if_pos (by omega)]
theorem cmpL_val (l m : List Int) (hb : l.length ≤ 9223372036854775807) : Ev (fun k => slices_Compare_int_int.f k l m) (cmpL l m) := by
  have := cmpL_l0 l m hb _ 0 rfl (Nat.zero_le _)
  simpa [slices_Compare_int_int.f] using this
/-- The first that is not zero. -/
def orP : List Int → Int
  | [] => 0
  | x :: l => if x = 0 then orP l else x
theorem orP_l0 (l : List Int) (hb : l.length ≤ 9223372036854775807) : ∀ (n i : Nat), l.length - i = n → i ≤ l.length → Ev (fun k => cmp_Or_int.l0 k 0 l (l.length : Int) (i : Int)) (orP (l.drop i))
  | 0, i, hn, hi => by
    obtain rfl : i = l.length := by omega
    refine one_round (fun k => ?_)
    simp only [cmp_Or_int.l0]
    rw [if_neg (by omega), List.drop_length]
    rfl
  | n + 1, i, hn, hi => by
    have hlt : i < l.length := by omega
    rw [List.drop_eq_getElem_cons hlt, orP]
    by_cases hc : l[i] = 0
    · rw [if_pos hc]
      refine Ev.step (fun k => ?_) (orP_l0 l hb n (i + 1) (by omega) (by omega))
      simp only [cmp_Or_int.l0]
      rw [if_pos (by omega), if_pos (by omega), if_pos (by omega), rd_at hlt, if_pos hc, w64 (by omega) (by omega)]
      rfl
    · rw [if_neg hc]
      refine one_round (fun k => ?_)
      simp only [cmp_Or_int.l0]
      rw [if_pos (by omega), if_pos (by omega), if_pos (by omega), rd_at hlt, if_neg hc]
theorem orP_val (l : List Int) (hb : l.length ≤ 9223372036854775807) : Ev (fun k => cmp_Or_int.f k l) (orP l) := by
  have := orP_l0 l hb _ 0 rfl (Nat.zero_le _)
  simpa [cmp_Or_int.f] using this
/-- The first tag; 0: none. -/
def firstP (l : List Int) : Int := l.headD 0
theorem first_val (a : Int) (l : List Int) : order_first.f a l = some (firstP l) ∧ intarsiaref26_first.f l = some (firstP l) := by
  cases l with
  | nil => simp [order_first.f, intarsiaref26_first.f, firstP]
  | cons x r =>
    have h1 : ¬ (((x :: r).length : Int) = 0) := by rw [List.length_cons]; omega
    have h2 : (0 : Int) < ((x :: r).length : Int) := by rw [List.length_cons]; omega
    rw [order_first.f, intarsiaref26_first.f, if_neg h1, if_pos h2]
    simp [firstP, rd]
/-- A condition's tests, told on from n; numbers wrap round. -/
def testsP : Int → List S84 → Int
  | n, [] => n
  | n, c :: r => testsP (if (c.f1.length : Int) > 0 then wrap64 (wrap64 (n + (c.f2.length : Int)) + 1) else wrap64 (n + (c.f2.length : Int))) r
theorem rd84_at {l : List S84} {i : Nat} (h : i < l.length) : rd_T84 l (i : Int) = l[i] := by simp [rd_T84, h]
theorem rd65_at {l : List S65} {i : Nat} (h : i < l.length) : rd_T65 l (i : Int) = l[i] := by simp [rd_T65, h]
theorem rd45_at {l : List S45} {i : Nat} (h : i < l.length) : rd_T45 l (i : Int) = l[i] := by simp [rd_T45, h]
theorem rd32_at {l : List S32} {i : Nat} (h : i < l.length) : rd_T32 l (i : Int) = l[i] := by simp [rd_T32, h]
theorem rd38_at {l : List S38} {i : Nat} (h : i < l.length) : rd_T38 l (i : Int) = l[i] := by simp [rd_T38, h]
theorem tests_l0 (l : List S84) (hb : l.length ≤ 9223372036854775807) : ∀ (n i : Nat) (x : Int), l.length - i = n → i ≤ l.length → Ev (fun k => test_Tests.l0 k x l (l.length : Int) (i : Int)) (testsP x (l.drop i))
  | 0, i, x, hn, hi => by
    obtain rfl : i = l.length := by omega
    refine one_round (fun k => ?_)
    simp only [test_Tests.l0]
    rw [if_neg (by omega), List.drop_length]
    rfl
  | n + 1, i, x, hn, hi => by
    have hlt : i < l.length := by omega
    rw [List.drop_eq_getElem_cons hlt, testsP]
    refine Ev.step (fun k => ?_) (tests_l0 l hb n (i + 1) _ (by omega) (by omega))
    simp only [test_Tests.l0]
    rw [if_pos (by omega), if_pos (by omega), if_pos (by omega), rd84_at hlt, w64 (x := (i : Int) + 1) (by omega) (by omega)]
    split <;> rfl
theorem rtests_l0 (a : Bool) (b : ByteArray) (l : List S84) (hb : l.length ≤ 9223372036854775807) : ∀ (n i : Nat) (x : Int), l.length - i = n → i ≤ l.length → Ev (fun k => intarsiaref20_Tests.l0 k x (i : Int) a b l) (testsP x (l.drop i))
  | 0, i, x, hn, hi => by
    obtain rfl : i = l.length := by omega
    refine one_round (fun k => ?_)
    simp only [intarsiaref20_Tests.l0]
    rw [if_neg (by omega), List.drop_length]
    rfl
  | n + 1, i, x, hn, hi => by
    have hlt : i < l.length := by omega
    rw [List.drop_eq_getElem_cons hlt, testsP]
    refine Ev.step (fun k => ?_) (rtests_l0 a b l hb n (i + 1) _ (by omega) (by omega))
    simp only [intarsiaref20_Tests.l0]
    rw [if_pos (by omega), if_pos (by omega), rd84_at hlt, w64 (x := (i : Int) + 1) (by omega) (by omega)]
    split <;> rfl
theorem tests_val (a : Bool) (b : ByteArray) (l : List S84) (hb : l.length ≤ 9223372036854775807) : Ev (fun k => test_Tests.f k a b l) (testsP 1 l) ∧ Ev (fun k => intarsiaref20_Tests.f k a b l) (testsP 1 l) := by
  have h1 := tests_l0 l hb _ 0 1 rfl (Nat.zero_le _)
  have h2 := rtests_l0 a b l hb _ 0 1 rfl (Nat.zero_le _)
  exact ⟨by simpa [test_Tests.f] using h1, by simpa [intarsiaref20_Tests.f] using h2⟩
/-- A rule's strength, told on from n. -/
def strP : Int → List S65 → Int
  | n, [] => n
  | n, c :: r => strP (wrap64 (n + testsP 1 c.f2)) r
theorem str_l0 (l : List S65) (hb : l.length ≤ 9223372036854775807) (hc : ∀ c ∈ l, c.f2.length ≤ 9223372036854775807) : ∀ (n i : Nat) (x : Int), l.length - i = n → i ≤ l.length → Ev (fun k => order_Strength.l0 k x l (l.length : Int) (i : Int)) (strP x (l.drop i))
  | 0, i, x, hn, hi => by
    obtain rfl : i = l.length := by omega
    refine one_round (fun k => ?_)
    simp only [order_Strength.l0]
    rw [if_neg (by omega), List.drop_length]
    rfl
  | n + 1, i, x, hn, hi => by
    have hlt : i < l.length := by omega
    rw [List.drop_eq_getElem_cons hlt, strP]
    refine Ev.step (f := fun k => (test_Tests.f k l[i].f0 l[i].f1 l[i].f2).bind fun t => order_Strength.l0 k (wrap64 (x + t)) l (l.length : Int) ((i + 1 : Nat) : Int)) (fun k => ?_) (Ev.bind (tests_val l[i].f0 l[i].f1 _ (hc _ (List.getElem_mem hlt))).1 (str_l0 l hb hc n (i + 1) _ (by omega) (by omega)))
    simp only [order_Strength.l0]
    rw [if_pos (by omega), if_pos (by omega), if_pos (by omega), rd65_at hlt, w64 (x := (i : Int) + 1) (by omega) (by omega)]
    rfl
theorem rstr_l0 (a : ByteArray) (b : List S89) (l : List S65) (hb : l.length ≤ 9223372036854775807) (hc : ∀ c ∈ l, c.f2.length ≤ 9223372036854775807) : ∀ (n i : Nat) (x : Int), l.length - i = n → i ≤ l.length → Ev (fun k => intarsiaref26_Strength.l0 k x (i : Int) a l b) (strP x (l.drop i))
  | 0, i, x, hn, hi => by
    obtain rfl : i = l.length := by omega
    refine one_round (fun k => ?_)
    simp only [intarsiaref26_Strength.l0]
    rw [if_neg (by omega), List.drop_length]
    rfl
  | n + 1, i, x, hn, hi => by
    have hlt : i < l.length := by omega
    rw [List.drop_eq_getElem_cons hlt, strP]
    refine Ev.step (f := fun k => (intarsiaref20_Tests.f k l[i].f0 l[i].f1 l[i].f2).bind fun t => intarsiaref26_Strength.l0 k (wrap64 (x + t)) ((i + 1 : Nat) : Int) a l b) (fun k => ?_) (Ev.bind (tests_val l[i].f0 l[i].f1 _ (hc _ (List.getElem_mem hlt))).2 (rstr_l0 a b l hb hc n (i + 1) _ (by omega) (by omega)))
    simp only [intarsiaref26_Strength.l0]
    rw [if_pos (by omega), if_pos (by omega), rd65_at hlt, w64 (x := (i : Int) + 1) (by omega) (by omega)]
    rfl
theorem str_val (a : ByteArray) (l : List S65) (b : List S89) (hb : l.length ≤ 9223372036854775807) (hc : ∀ c ∈ l, c.f2.length ≤ 9223372036854775807) : Ev (fun k => order_Strength.f k a l b) (strP 0 l) ∧ Ev (fun k => intarsiaref26_Strength.f k a l b) (strP 0 l) := by
  have h1 := str_l0 l hb hc _ 0 0 rfl (Nat.zero_le _)
  have h2 := rstr_l0 a b l hb hc _ 0 0 rfl (Nat.zero_le _)
  exact ⟨by simpa [order_Strength.f] using h1, by simpa [intarsiaref26_Strength.f] using h2⟩
/-- What is asked of rules' lengths. -/
def okRules (l : List S45) : Prop := l.length ≤ 9223372036854775807 ∧ ∀ r ∈ l, r.f1.length ≤ 9223372036854775807 ∧ ∀ c ∈ r.f1, c.f2.length ≤ 9223372036854775807
/-- The strength of a rule's place. -/
def strAt (l : List S45) (i : Int) : Int := if 0 ≤ i ∧ i < (l.length : Int) then strP 0 (rd_T45 l i).f1 else 0
theorem strAt_val (l : List S45) (h : okRules l) (a i : Int) : Ev (fun k => order_orderer_strength.f k l a i) (strAt l i) ∧ Ev (fun k => intarsiaref26_strength.f k l i) (strAt l i) := by
  by_cases h0 : i < 0
  · have e : strAt l i = 0 := by rw [strAt, if_neg (by omega)]
    rw [e]
    exact ⟨⟨0, fun k _ => by simp only [order_orderer_strength.f]; rw [if_pos h0]⟩, ⟨0, fun k _ => by simp only [intarsiaref26_strength.f]; rw [if_pos h0]⟩⟩
  · by_cases h1 : i ≥ (l.length : Int)
    · have e : strAt l i = 0 := by rw [strAt, if_neg (by omega)]
      rw [e]
      exact ⟨⟨0, fun k _ => by simp only [order_orderer_strength.f]; rw [if_neg h0, if_pos h1]⟩, ⟨0, fun k _ => by simp only [intarsiaref26_strength.f]; rw [if_neg h0, if_pos h1]⟩⟩
    · obtain ⟨n, rfl⟩ := Int.eq_ofNat_of_zero_le (show 0 ≤ i by omega)
      have hn : n < l.length := by omega
      have hr := h.2 l[n] (List.getElem_mem hn)
      have e : strAt l (n : Int) = strP 0 l[n].f1 := by rw [strAt, if_pos (by omega), rd45_at hn]
      have hv := str_val l[n].f0 l[n].f1 l[n].f2 hr.1 hr.2
      rw [e]
      constructor
      · refine Ev.congr (f := fun k => (order_Strength.f k l[n].f0 l[n].f1 l[n].f2).bind fun t => some t) (fun k => ?_) (Ev.bind hv.1 (Ev.now _))
        rw [order_orderer_strength.f, if_neg h0, if_neg h1, if_pos (by omega), if_pos (by omega), rd45_at hn]
      · refine Ev.congr (f := fun k => (intarsiaref26_Strength.f k l[n].f0 l[n].f1 l[n].f2).bind fun t => some t) (fun k => ?_) (Ev.bind hv.2 (Ev.now _))
        rw [intarsiaref26_strength.f, if_neg h0, if_neg h1, if_pos (by omega), if_pos (by omega), rd45_at hn]
end Go.Proofs.Ytjkdfjkaeoklmaa.Q
namespace Go.Proofs.Ytjkdfjkaeoklmaa.Q
open Go.RowKit Go.Proofs.YtjkdfjkaeoklmaaW.PrintWords Go.Proofs.YtjkdfjkaeoklmaaW.PrintLast Go.Proofs.YtjkdfjkaeoklmaaW.PrintMore
set_option linter.unusedVariables false
set_option linter.unusedSimpArgs false
theorem recent_l0 (l m : List Int) (hl : l.length ≤ 9223372036854775807) (hm : m.length ≤ 9223372036854775807) : ∀ (n i : Nat), l.length - i = n → i ≤ l.length → i ≤ m.length →
    Ev (fun k => intarsiaref26_recent.l0 k l m (i : Int)) (cmpL (l.drop i) (m.drop i)) ∧ Ev (fun k => intarsiaref26_ahead.l0 k l m (i : Int)) (- cmpL (l.drop i) (m.drop i))
  | n, i, hn, hi, hj => by
    by_cases hlt : i < l.length
    · have e1 : ∀ k, intarsiaref26_recent.l0 (k + 1) l m (i : Int) = intarsiaref26_recent.j1 k l m (i : Int) true := fun k => by simp only [intarsiaref26_recent.l0]; rw [if_pos (by omega)]
      have e1' : ∀ k, intarsiaref26_ahead.l0 (k + 1) l m (i : Int) = intarsiaref26_ahead.j1 k l m (i : Int) true := fun k => by simp only [intarsiaref26_ahead.l0]; rw [if_pos (by omega)]
      by_cases hm2 : i < m.length
      · have e2 : ∀ k, intarsiaref26_recent.j1 (k + 1) l m (i : Int) true = intarsiaref26_recent.j2 k l m (i : Int) (decide (l[i] > m[i])) := fun k => by
          simp only [intarsiaref26_recent.j1]; rw [if_pos trivial, if_neg (by omega), if_neg (by omega), if_pos (by omega), if_pos (by omega), if_pos (by omega), rd_at hlt, rd_at hm2]
        have e2' : ∀ k, intarsiaref26_ahead.j1 (k + 1) l m (i : Int) true = intarsiaref26_ahead.j2 k l m (i : Int) (decide (l[i] > m[i])) := fun k => by
          simp only [intarsiaref26_ahead.j1]; rw [if_pos trivial, if_neg (by omega), if_neg (by omega), if_pos (by omega), if_pos (by omega), if_pos (by omega), rd_at hlt, rd_at hm2]
        rw [List.drop_eq_getElem_cons hlt, List.drop_eq_getElem_cons hm2, cmpL]
        by_cases hg : l[i] > m[i]
        · have hc : cmpI l[i] m[i] = 1 := by rw [cmpI, if_neg (by omega), if_pos hg]
          rw [hc, if_neg (by omega)]
          refine ⟨Ev.step e1 (Ev.step e2 (one_round fun k => ?_)), Ev.step e1' (Ev.step e2' (one_round fun k => ?_))⟩
          · simp only [intarsiaref26_recent.j2]; rw [if_pos (decide_eq_true hg)]
          · simp only [intarsiaref26_ahead.j2]; rw [if_pos (decide_eq_true hg)]
        · by_cases hl2 : l[i] < m[i]
          · have hc : cmpI l[i] m[i] = -1 := by rw [cmpI, if_pos hl2]
            rw [hc, if_neg (by omega)]
            refine ⟨Ev.step e1 (Ev.step e2 (one_round fun k => ?_)), Ev.step e1' (Ev.step e2' (one_round fun k => ?_))⟩
            · simp only [intarsiaref26_recent.j2]; rw [if_neg (by simp [hg]), if_pos (by omega), if_pos (by omega), if_pos (by omega), rd_at hlt, rd_at hm2, if_pos hl2]
            · simp only [intarsiaref26_ahead.j2]; rw [if_neg (by simp [hg]), if_pos (by omega), if_pos (by omega), if_pos (by omega), rd_at hlt, rd_at hm2, if_pos hl2]; rfl
          · have hc : cmpI l[i] m[i] = 0 := by rw [cmpI, if_neg hl2, if_neg hg]
            rw [hc, if_pos rfl]
            have ih := recent_l0 l m hl hm (n - 1) (i + 1) (by omega) (by omega) (by omega)
            refine ⟨Ev.step e1 (Ev.step e2 (Ev.step (fun k => ?_) ih.1)), Ev.step e1' (Ev.step e2' (Ev.step (fun k => ?_) ih.2))⟩
            · simp only [intarsiaref26_recent.j2]; rw [if_neg (by simp [hg]), if_pos (by omega), if_pos (by omega), if_pos (by omega), rd_at hlt, rd_at hm2, if_neg hl2, w64 (by omega) (by omega)]; rfl
            · simp only [intarsiaref26_ahead.j2]; rw [if_neg (by simp [hg]), if_pos (by omega), if_pos (by omega), if_pos (by omega), rd_at hlt, rd_at hm2, if_neg hl2, w64 (by omega) (by omega)]; rfl
      · have e2 : ∀ k, intarsiaref26_recent.j1 (k + 1) l m (i : Int) true = intarsiaref26_recent.j2 k l m (i : Int) true := fun k => by
          simp only [intarsiaref26_recent.j1]; rw [if_pos trivial, if_neg (by omega), if_pos (by omega)]
        have e2' : ∀ k, intarsiaref26_ahead.j1 (k + 1) l m (i : Int) true = intarsiaref26_ahead.j2 k l m (i : Int) true := fun k => by
          simp only [intarsiaref26_ahead.j1]; rw [if_pos trivial, if_neg (by omega), if_pos (by omega)]
        rw [List.drop_eq_getElem_cons hlt, List.drop_of_length_le (show m.length ≤ i by omega), cmpL]
        refine ⟨Ev.step e1 (Ev.step e2 (one_round fun k => ?_)), Ev.step e1' (Ev.step e2' (one_round fun k => ?_))⟩
        · simp only [intarsiaref26_recent.j2]; rw [if_pos trivial]
        · simp only [intarsiaref26_ahead.j2]; rw [if_pos trivial]
    · obtain rfl : i = l.length := by omega
      rw [List.drop_length]
      by_cases hm2 : l.length < m.length
      · rw [List.drop_eq_getElem_cons hm2, cmpL]
        refine ⟨Ev.step (f := fun k => intarsiaref26_recent.j1 k l m (l.length : Int) true) (fun k => ?_) (one_round fun k => ?_), Ev.step (f := fun k => intarsiaref26_ahead.j1 k l m (l.length : Int) true) (fun k => ?_) (one_round fun k => ?_)⟩
        · simp only [intarsiaref26_recent.l0]; rw [if_neg (by omega), decide_eq_true (by omega)]
        · simp only [intarsiaref26_recent.j1]; rw [if_pos trivial, if_pos (by omega)]
        · simp only [intarsiaref26_ahead.l0]; rw [if_neg (by omega), decide_eq_true (by omega)]
        · simp only [intarsiaref26_ahead.j1]; rw [if_pos trivial, if_pos (by omega)]; rfl
      · rw [List.drop_of_length_le (by omega), cmpL]
        refine ⟨Ev.step (f := fun k => intarsiaref26_recent.j1 k l m (l.length : Int) false) (fun k => ?_) (one_round fun k => ?_), Ev.step (f := fun k => intarsiaref26_ahead.j1 k l m (l.length : Int) false) (fun k => ?_) (one_round fun k => ?_)⟩
        · simp only [intarsiaref26_recent.l0]; rw [if_neg (by omega), decide_eq_false (by omega)]
        · simp only [intarsiaref26_recent.j1]; rw [if_neg (by decide)]
        · simp only [intarsiaref26_ahead.l0]; rw [if_neg (by omega), decide_eq_false (by omega)]
        · simp only [intarsiaref26_ahead.j1]; rw [if_neg (by decide)]; rfl
  termination_by n i => l.length - i
theorem recent_val (l m : List Int) (hl : l.length ≤ 9223372036854775807) (hm : m.length ≤ 9223372036854775807) : Ev (fun k => intarsiaref26_recent.f k l m) (cmpL l m) ∧ Ev (fun k => intarsiaref26_ahead.f k l m) (- cmpL l m) := by
  have h := recent_l0 l m hl hm _ 0 rfl (Nat.zero_le _) (Nat.zero_le _)
  exact ⟨by simpa [intarsiaref26_recent.f] using h.1, by simpa [intarsiaref26_ahead.f] using h.2⟩
end Go.Proofs.Ytjkdfjkaeoklmaa.Q
-- Made by this session's wip/tools/myprint.py (the kit's print.py, with this session's hooks) out of the translation; Lean checks it.
namespace Go.Proofs.Ytjkdfjkaeoklmaa.Q
open Go.RowKit Go.Proofs.YtjkdfjkaeoklmaaW.PrintWords Go.Proofs.YtjkdfjkaeoklmaaW.PrintLast Go.Proofs.YtjkdfjkaeoklmaaW.PrintMore
attribute [local go_sem] max2_int min2_int max_two min_two max_three min_three max_four min_four   -- for this text's walks alone
set_option linter.unusedVariables false
set_option linter.unusedSimpArgs false

/-! ### order_Less: function 9 -/
def order_Less.f (k : Nat) (l0 : List (S45)) (a1 : Int) (a2_0 : Int) (l2_1 : List Int) (a3_0 : Int) (l3_1 : List Int) : Option (Bool) := (order_orderer_compare.f k l0 a1 a2_0 l2_1 a3_0 l3_1).bind fun t297 => (some (decide (t297 < 0)))
set_option maxHeartbeats 8000000 in
set_option maxRecDepth 100000 in
theorem order_Less.calls (k : Nat) (A0 : Option Addr) (c0 : Nat) (l0 : List (S45)) (a1 : Int) (a2_0 : Int) (A2_1 : Option Addr) (c2_1 : Nat) (l2_1 : List Int) (a3_0 : Int) (A3_1 : Option Addr) (c3_1 : Nat) (l3_1 : List Int) (r : Bool) (w : World) (hr0 : Kd.C k45 w A0 l0.length l0) (hc0 : l0.length ≤ c0) (hr2_1 : Kd.C (Kd.int .i64) w A2_1 l2_1.length l2_1) (hc2_1 : l2_1.length ≤ c2_1) (hr3_1 : Kd.C (Kd.int .i64) w A3_1 l3_1.length l3_1) (hc3_1 : l3_1.length ≤ c3_1) (h : order_Less.f k l0 a1 a2_0 l2_1 a3_0 l3_1 = some r) :
  Calls Try.prog 9 #[.slice A0 l0.length c0, .int .u8 a1, .agg #[.int .i64 a2_0, .slice A2_1 l2_1.length c2_1], .agg #[.int .i64 a3_0, .slice A3_1 l3_1.length c3_1]] w fun e w' => e = .returned (.bool r) ∧ Below w.heap.size w w' := by
 have hu32 := Try.underlying32
 have hu53 := Try.underlying53
 have HR0 := Aside0.mk hr0
 have HC0 := Aside0.mk hc0
 clear hr0 hc0
 have HR2_1 := Aside0.mk hr2_1
 have HC2_1 := Aside0.mk hc2_1
 clear hr2_1 hc2_1
 have HR3_1 := Aside0.mk hr3_1
 have HC3_1 := Aside0.mk hc3_1
 clear hr3_1 hc3_1
 have HB := Aside0.mk (Below.refl w.heap.size w)
 have H : ((order_orderer_compare.f k l0 a1 a2_0 l2_1 a3_0 l3_1).bind fun t297 => (some (decide (t297 < 0)))) = some r := h
 clear h
 replace H := Option.bind_eq_some_iff.mp H
 obtain ⟨t297, A50, H⟩ := H
 replace H : (some (decide (t297 < 0))) = some r := H
 have A5 := Aside0.mk A50
 clear A50
 obtain rfl := Option.some.inj H
 go_enter Try.func9, Try.ntmps9
 go_wp2_with (first | ((with_reducible refine gate_dst (N := 6) rfl ?_); refine box_event ?hg (N := 6) ?hd (cs := #[.int .i64 a2_0, .slice A2_1 l2_1.length c2_1]) (t := 32) ?hr ?_; (case hd => rfl); (case hg => rfl); (case hr => first | (go_simp; done) | (go_simp; rfl)); intro gb295 hg w6 hbox hb; have n0_ := Aside0.mk (below_step (by repeat (first | (with_reducible first | exact HB.out | apply below_alloc | apply pw_below_drewN | apply below_drew1) | exact HB.out)) hb); have n1_ := Aside0.mk (hbox); have n2_ := Aside0.mk ((by rw [hg]; exact (below_size (by repeat (first | (with_reducible first | exact HB.out | apply below_alloc | apply pw_below_drewN | apply below_drew1) | exact HB.out))) : w.heap.size ≤ gb295)); have n3_ := Aside0.mk ((by rw [hg]; exact (below_size (by repeat (first | (with_reducible first | exact HB.out | apply below_alloc | apply pw_below_drewN | apply below_drew1) | exact HB.out))) : w.heap.size ≤ gb295)); clear HB; have HB := n0_; have BK295 := n1_; have GW295 := n2_; have GE295 := n3_; clear n0_ n1_ n2_ n3_; clear hb hbox hg) | ((with_reducible refine gate_dst (N := 7) rfl ?_); refine box_event ?hg (N := 7) ?hd (cs := #[.int .i64 a3_0, .slice A3_1 l3_1.length c3_1]) (t := 32) ?hr ?_; (case hd => rfl); (case hg => rfl); (case hr => first | (go_simp; done) | (go_simp; rfl)); intro gb296 hg w7 hbox hb; have n0_ := Aside0.mk (blk_below (g := gb295) (o := .cells #[.int .i64 a2_0, .slice A2_1 l2_1.length c2_1] 32 (0, 0)) (by (with_reducible repeat (first | refine blk_drewN ?_ _ | refine blk_drew ?_ | refine blk_alloc ?_ _)); exact BK295.out) hb); have n1_ := Aside0.mk (below_step (by repeat (first | (with_reducible first | exact HB.out | apply below_alloc | apply pw_below_drewN | apply below_drew1 | refine below_set ?_ GE295.out) | exact HB.out)) hb); have n2_ := Aside0.mk (hbox); have n3_ := Aside0.mk ((by rw [hg]; exact (below_size (by repeat (first | (with_reducible first | exact HB.out | apply below_alloc | apply pw_below_drewN | apply below_drew1 | refine below_set ?_ GE295.out) | exact HB.out))) : w.heap.size ≤ gb296)); have n4_ := Aside0.mk ((by rw [hg]; exact (below_size (by repeat (first | (with_reducible first | exact HB.out | apply below_alloc | apply pw_below_drewN | apply below_drew1 | refine below_set ?_ GE295.out) | exact HB.out))) : w.heap.size ≤ gb296)); have n5_ := Aside0.mk ((by rw [hg]; exact Nat.ne_of_lt (blk_lt (g := gb295) (o := .cells #[.int .i64 a2_0, .slice A2_1 l2_1.length c2_1] 32 (0, 0)) (by (with_reducible repeat (first | refine blk_drewN ?_ _ | refine blk_drew ?_ | refine blk_alloc ?_ _)); exact BK295.out)) : gb295 ≠ gb296)); have n6_ := Aside0.mk ((by rw [hg]; exact Nat.ne_of_gt (blk_lt (g := gb295) (o := .cells #[.int .i64 a2_0, .slice A2_1 l2_1.length c2_1] 32 (0, 0)) (by (with_reducible repeat (first | refine blk_drewN ?_ _ | refine blk_drew ?_ | refine blk_alloc ?_ _)); exact BK295.out)) : gb296 ≠ gb295)); clear BK295; clear HB; have BK295 := n0_; have HB := n1_; have BK296 := n2_; have GW296 := n3_; have GE296 := n4_; have NB295_296 := n5_; have NB296_295 := n6_; clear n0_ n1_ n2_ n3_ n4_ n5_ n6_; clear hb hbox hg; have hnb8 := NB295_296.out; have hnc8 := NB296_295.out; have hcz9_0 : w7.cell? ⟨gb295, 0, none⟩ = some (.int .i64 a2_0) := (blk_cell BK295.out 0).trans rfl; have hcz9_1 : w7.cell? ⟨gb295, 1, none⟩ = some (.slice A2_1 l2_1.length c2_1) := (blk_cell BK295.out 1).trans rfl; have hfz9_0 := blk_frozen BK295.out 0; have hfz9_1 := blk_frozen BK295.out 1; have hcz10_0 : w7.cell? ⟨gb296, 0, none⟩ = some (.int .i64 a3_0) := (blk_cell BK296.out 0).trans rfl; have hcz10_1 : w7.cell? ⟨gb296, 1, none⟩ = some (.slice A3_1 l3_1.length c3_1) := (blk_cell BK296.out 1).trans rfl; have hfz10_0 := blk_frozen BK296.out 0; have hfz10_1 := blk_frozen BK296.out 1) | ((with_reducible refine gate_callee (f := 24) rfl ?_); refine goesL_ (some 14) rfl rfl Try.func24 (by kernel_rfl) rfl #[.agg #[.slice A0 l0.length c0, .int .u8 a1], .agg #[.int .i64 a2_0, .slice A2_1 l2_1.length c2_1], .agg #[.int .i64 a3_0, .slice A3_1 l3_1.length c3_1]] rfl (by (try simp only [List.map_toArray, List.map_cons, List.map_nil]); first | done | rfl | (simp only [List.length_drop, List.length_take]; rfl)) ?_; (with_reducible refine (order_orderer_compare.calls k _ _ l0 a1 a2_0 _ _ l2_1 a3_0 _ _ l3_1 t297 _ ?side1 ?side2 ?side3 ?side4 ?side5 ?side6 A5.out).mono ?_); (case side1 => repeat (first | exact (Kd.C_below HR0.out HB.out) | (with_reducible refine Kd.C_alloc ?_ _) | (with_reducible refine Kd.C_drewN ?_ _) | (with_reducible refine Kd.C_drew ?_))); (case side2 => exact HC0.out); (case side3 => repeat (first | exact (Kd.C_below HR2_1.out HB.out) | (with_reducible refine Kd.C_alloc ?_ _) | (with_reducible refine Kd.C_drewN ?_ _) | (with_reducible refine Kd.C_drew ?_))); (case side4 => exact HC2_1.out); (case side5 => repeat (first | exact (Kd.C_below HR3_1.out HB.out) | (with_reducible refine Kd.C_alloc ?_ _) | (with_reducible refine Kd.C_drewN ?_ _) | (with_reducible refine Kd.C_drew ?_))); (case side6 => exact HC3_1.out); rintro e w11 ⟨rfl, hb⟩; refine ⟨_, rfl, ?_⟩; have n0_ := Aside0.mk (blk_below (g := gb295) (o := .cells #[.int .i64 a2_0, .slice A2_1 l2_1.length c2_1] 32 (0, 0)) (by (with_reducible repeat (first | refine blk_drewN ?_ _ | refine blk_drew ?_ | refine blk_alloc ?_ _)); exact BK295.out) hb); have n1_ := Aside0.mk (blk_below (g := gb296) (o := .cells #[.int .i64 a3_0, .slice A3_1 l3_1.length c3_1] 32 (0, 0)) (by (with_reducible repeat (first | refine blk_drewN ?_ _ | refine blk_drew ?_ | refine blk_alloc ?_ _)); exact BK296.out) hb); have n2_ := Aside0.mk (below_step (by repeat (first | (with_reducible first | exact HB.out | apply below_alloc | apply pw_below_drewN | apply below_drew1 | refine below_set ?_ GE295.out | refine below_set ?_ GE296.out) | exact HB.out)) hb); clear BK295; clear BK296; clear HB; have BK295 := n0_; have BK296 := n1_; have HB := n2_; clear n0_ n1_ n2_; (try clear hb); (try clear hb2); (try clear hk); (try clear hi)))
 go_ret
 exact ⟨by first | rfl | (simp [errW_none, errW_some] <;> rfl) | (simp [*, errW_none, errW_some] <;> rfl), by repeat (first | (with_reducible first | exact HB.out | apply below_alloc | apply pw_below_drewN | apply below_drew1 | refine below_set ?_ GE295.out | refine below_set ?_ GE296.out) | exact HB.out)⟩

end Go.Proofs.Ytjkdfjkaeoklmaa.Q
namespace Go.Proofs.Ytjkdfjkaeoklmaa.Q
open Go.RowKit Go.Proofs.YtjkdfjkaeoklmaaW.PrintWords Go.Proofs.YtjkdfjkaeoklmaaW.PrintLast Go.Proofs.YtjkdfjkaeoklmaaW.PrintMore
set_option linter.unusedVariables false
set_option linter.unusedSimpArgs false
theorem cmpI_anti (a b : Int) : cmpI a b = - cmpI b a := by unfold cmpI; split <;> split <;> (try split) <;> (try split) <;> omega
theorem cmpI_zero (a b : Int) : cmpI a b = 0 ↔ a = b := by unfold cmpI; split <;> (try split) <;> omega
theorem cmpL_anti : ∀ (l m : List Int), cmpL l m = - cmpL m l
  | [], [] => rfl
  | [], _ :: _ => rfl
  | _ :: _, [] => rfl
  | x :: l, y :: m => by
    rw [cmpL, cmpL, cmpL_anti l m, cmpI_anti x y]
    by_cases h : cmpI y x = 0
    · rw [if_pos h, if_pos (by omega)]
    · rw [if_neg h, if_neg (by omega)]
/-- How two instantiations stand. -/
def compareP (l0 : List S45) (how : Int) (x y : S32) : Int :=
  orP [if how = 1 then cmpI (firstP y.f1) (firstP x.f1) else 0, cmpL (recency y.f1) (recency x.f1), cmpI (strAt l0 y.f0) (strAt l0 x.f0), cmpI x.f0 y.f0, cmpL x.f1 y.f1]
def lessP (l0 : List S45) (how : Int) (x y : S32) : Bool := decide (compareP l0 how x y < 0)
theorem recency_le (l : List Int) (h : l.length ≤ 12) : (recency l).length ≤ 12 := Nat.le_trans (recency_len l) h
theorem compare_val (l0 : List S45) (h0 : okRules l0) (how : Int) (x y : S32) (hx : x.f1.length ≤ 12) (hy : y.f1.length ≤ 12) : Ev (fun k => order_orderer_compare.f k l0 how x.f0 x.f1 y.f0 y.f1) (compareP l0 how x y) := by
  have hj : ∀ mea : Int, Ev (fun k => order_orderer_compare.j0 k mea l0 how x.f0 x.f1 y.f0 y.f1) (orP [mea, cmpL (recency y.f1) (recency x.f1), cmpI (strAt l0 y.f0) (strAt l0 x.f0), cmpI x.f0 y.f0, cmpL x.f1 y.f1]) := by
    intro mea
    refine Ev.step (fun k => by simp only [order_orderer_compare.j0]; rfl) ?_
    refine Ev.bind (a := recency y.f1) ⟨0, fun k _ => by simp only [order_Recency.f]; rw [if_pos hy]⟩ ?_
    refine Ev.bind (a := recency x.f1) ⟨0, fun k _ => by simp only [order_Recency.f]; rw [if_pos hx]⟩ ?_
    refine Ev.bind (cmpL_val _ _ (by have := recency_le _ hy; omega)) ?_
    refine Ev.bind (strAt_val l0 h0 how y.f0).1 ?_
    refine Ev.bind (strAt_val l0 h0 how x.f0).1 ?_
    refine Ev.bind (a := cmpI (strAt l0 y.f0) (strAt l0 x.f0)) ⟨0, fun k _ => cmpI_val _ _⟩ ?_
    refine Ev.bind (a := cmpI x.f0 y.f0) ⟨0, fun k _ => cmpI_val _ _⟩ ?_
    refine Ev.bind (cmpL_val _ _ (by omega)) ?_
    refine Ev.bind (orP_val _ (by simp)) ?_
    exact Ev.now _
  unfold compareP
  by_cases h1 : how = 1
  · refine Ev.congr (f := fun k => order_orderer_compare.j0 k (cmpI (firstP y.f1) (firstP x.f1)) l0 how x.f0 x.f1 y.f0 y.f1) (fun k => ?_) (by rw [if_pos h1]; exact hj _)
    rw [order_orderer_compare.f, if_pos h1, (first_val _ _).1, (first_val _ _).1, Option.bind_some, Option.bind_some, cmpI_val, Option.bind_some]
  · refine Ev.congr (f := fun k => order_orderer_compare.j0 k 0 l0 how x.f0 x.f1 y.f0 y.f1) (fun k => ?_) (by rw [if_neg h1]; exact hj _)
    rw [order_orderer_compare.f, if_neg h1]
theorem less_o_val (l0 : List S45) (h0 : okRules l0) (how : Int) (x y : S32) (hx : x.f1.length ≤ 12) (hy : y.f1.length ≤ 12) : Ev (fun k => order_Less.f k l0 how x.f0 x.f1 y.f0 y.f1) (lessP l0 how x y) := by
  refine Ev.congr (f := fun k => (order_orderer_compare.f k l0 how x.f0 x.f1 y.f0 y.f1).bind fun t => some (decide (t < 0))) (fun k => by rw [order_Less.f]) ?_
  exact Ev.bind (compare_val l0 h0 how x y hx hy) (Ev.now _)
theorem less_r_val (l0 : List S45) (h0 : okRules l0) (how : Int) (x y : S32) (hx : x.f1.length ≤ 12) (hy : y.f1.length ≤ 12) : Ev (fun k => intarsiaref26_Less.f k l0 how x.f0 x.f1 y.f0 y.f1) (lessP l0 how x y) := by
  have hj : Ev (fun k => intarsiaref26_Less.j0 k l0 false x.f0 x.f1 y.f0 y.f1) (decide (orP [0, cmpL (recency y.f1) (recency x.f1), cmpI (strAt l0 y.f0) (strAt l0 x.f0), cmpI x.f0 y.f0, cmpL x.f1 y.f1] < 0)) := by
    refine Ev.step (fun k => by simp only [intarsiaref26_Less.j0]; rw [if_neg (by decide)]) ?_
    refine Ev.bind (a := recency x.f1) ⟨0, fun k _ => by simp only [intarsiaref26_Recency.f]; rw [if_pos hx]⟩ ?_
    refine Ev.bind (a := recency y.f1) ⟨0, fun k _ => by simp only [intarsiaref26_Recency.f]; rw [if_pos hy]⟩ ?_
    refine Ev.bind (recent_val _ _ (by have := recency_le _ hx; omega) (by have := recency_le _ hy; omega)).1 ?_
    rw [orP, if_pos rfl, orP, cmpL_anti (recency y.f1)]
    by_cases hr : cmpL (recency x.f1) (recency y.f1) = 0
    · simp only [hr, if_true]
      rw [if_pos (by omega)]
      refine Ev.bind (strAt_val l0 h0 0 x.f0).2 ?_
      refine Ev.bind (strAt_val l0 h0 0 y.f0).2 ?_
      by_cases hs : strAt l0 x.f0 = strAt l0 y.f0
      · simp only [hs, if_true]
        rw [orP, if_pos ((cmpI_zero _ _).2 rfl), orP]
        by_cases he : x.f0 = y.f0
        · simp only [he, if_true]
          rw [if_pos ((cmpI_zero _ _).2 rfl), orP, orP]
          refine Ev.bind (recent_val _ _ (by omega) (by omega)).2 ?_
          have : decide (- cmpL x.f1 y.f1 > 0) = decide ((if cmpL x.f1 y.f1 = 0 then 0 else cmpL x.f1 y.f1) < 0) := by
            split
            · rename_i h; rw [h]; decide
            · apply decide_eq_decide.2; omega
          rw [this]
          exact Ev.now _
        · simp only [he, if_false]
          rw [if_neg (fun h => he ((cmpI_zero _ _).1 h))]
          have : decide (x.f0 < y.f0) = decide (cmpI x.f0 y.f0 < 0) := by
            apply decide_eq_decide.2
            unfold cmpI
            split
            · omega
            · split <;> omega
          rw [this]
          exact Ev.now _
      · simp only [hs, if_false]
        rw [orP, if_neg (fun h => hs ((cmpI_zero _ _).1 h).symm)]
        have : decide (strAt l0 x.f0 > strAt l0 y.f0) = decide (cmpI (strAt l0 y.f0) (strAt l0 x.f0) < 0) := by
          apply decide_eq_decide.2
          unfold cmpI
          split
          · omega
          · split <;> omega
        rw [this]
        exact Ev.now _
    · simp only [hr, if_false]
      rw [if_neg (by omega)]
      have : decide (cmpL (recency x.f1) (recency y.f1) > 0) = decide (- cmpL (recency x.f1) (recency y.f1) < 0) := decide_eq_decide.2 (by omega)
      rw [this]
      exact Ev.now _
  unfold lessP compareP
  by_cases h1 : how = 1
  · rw [if_pos h1]
    by_cases hf : firstP x.f1 = firstP y.f1
    · refine Ev.congr (f := fun k => intarsiaref26_Less.j0 k l0 false x.f0 x.f1 y.f0 y.f1) (fun k => ?_) ?_
      · rw [intarsiaref26_Less.f, if_pos h1, (first_val 0 _).2, (first_val 0 _).2, Option.bind_some, Option.bind_some, hf, bne_self_eq_false]
      · rw [hf, (cmpI_zero _ _).2 rfl]; exact hj
    · refine Ev.congr (f := fun k => intarsiaref26_Less.j0 k l0 true x.f0 x.f1 y.f0 y.f1) (fun k => ?_) ?_
      · rw [intarsiaref26_Less.f, if_pos h1, (first_val 0 _).2, (first_val 0 _).2, Option.bind_some, Option.bind_some]
        congr 1
        simpa using hf
      · refine one_round (fun k => ?_)
        simp only [intarsiaref26_Less.j0]
        rw [if_pos trivial, (first_val 0 _).2, (first_val 0 _).2, Option.bind_some, Option.bind_some, orP, if_neg (fun h => hf ((cmpI_zero _ _).1 h).symm)]
        congr 1
        apply decide_eq_decide.2
        unfold cmpI
        split
        · omega
        · split <;> omega
  · rw [if_neg h1]
    refine Ev.congr (f := fun k => intarsiaref26_Less.j0 k l0 false x.f0 x.f1 y.f0 y.f1) (fun k => ?_) hj
    rw [intarsiaref26_Less.f, if_neg h1]
end Go.Proofs.Ytjkdfjkaeoklmaa.Q
namespace Go.Proofs.Ytjkdfjkaeoklmaa.Q
open Go.RowKit Go.Proofs.YtjkdfjkaeoklmaaW.PrintWords
set_option linter.unusedVariables false
set_option linter.unusedSimpArgs false
/-- A comparison that goes on. -/
structure Good {α : Type} (c : α → α → Int) : Prop where
  anti : ∀ x y, c x y = - c y x
  trans : ∀ x y z, c x y ≤ 0 → c y z ≤ 0 → c x z ≤ 0 ∧ (c x z = 0 → c x y = 0 ∧ c y z = 0)
theorem Good.key {α β : Type} {c : α → α → Int} (h : Good c) (f : β → α) : Good (fun x y => c (f x) (f y)) := ⟨fun _ _ => h.anti _ _, fun _ _ _ => h.trans _ _ _⟩
end Go.Proofs.Ytjkdfjkaeoklmaa.Q

namespace Go.Proofs.Ytjkdfjkaeoklmaa.Q
open Go.RowKit Go.Proofs.YtjkdfjkaeoklmaaW.PrintWords Go.Proofs.YtjkdfjkaeoklmaaW.PrintLast Go.Proofs.YtjkdfjkaeoklmaaW.PrintMore
set_option linter.unusedVariables false
set_option linter.unusedSimpArgs false
/-- The least of some, by the comparison; each is held against the least so far. -/
def minL (k : Nat) (l0 : List S45) (a1 : Int) : S32 → List S32 → Option S32
  | m, [] => some m
  | m, x :: r => (order_orderer_compare.f k l0 a1 x.f0 x.f1 m.f0 m.f1).bind fun t => if t < 0 then minL k l0 a1 x r else minL k l0 a1 m r
theorem minL.mono (l0 : List S45) (a1 : Int) (k : Nat) : ∀ (r : List S32) (m : S32), LeO (minL k l0 a1 m r) (minL (k + 1) l0 a1 m r)
  | [], m => LeO.refl _
  | x :: r, m => LeO.bind (order_orderer_compare.mono _ _ _ _ _ _ k) (fun t => LeO.ite (minL.mono l0 a1 k r x) (minL.mono l0 a1 k r m))

/-- An element of two cells, of whatever kind that reads as an instantiation. -/
theorem elem32 {d : Kd S32} {A : Option Addr} {l : List S32} {W : World} (hx : Kd.C d W A l.length l) (hsz : d.sz = 2) (hd : ∀ y cs, d.K W y cs → k32.K W y cs) (i : Nat) (hi : i < l.length) :
    ∃ ad At ct, A = some ad ∧ d.K W l[i] [.int .i64 l[i].f0, .slice At l[i].f1.length ct] ∧ l[i].f1.length ≤ ct ∧ (Kd.int .i64).C W At l[i].f1.length l[i].f1 ∧ W.cell? (ad.add (i * 2)) = some (.int .i64 l[i].f0) ∧ W.cell? ⟨(ad.add (i * 2)).block, (ad.add (i * 2)).off + 1, none⟩ = some (.slice At l[i].f1.length ct) := by
  obtain ⟨ad, cs, e, hcl, hK, hc⟩ := Kd.C_get hx z32 (i : Int) (by omega) (by omega)
  rw [Int.toNat_natCast, List.getD_eq_getElem?_getD, List.getElem?_eq_getElem hi] at hK
  rw [Int.toNat_natCast, hsz] at hc
  obtain ⟨At, ct, hcs, hlt, hC⟩ := k32_open (hd _ _ hK)
  rw [hcs] at hK hc
  exact ⟨ad, At, ct, e, hK, hlt, hC, hc 0 _ rfl, by rw [← add_field _ _ 1 (by omega)]; exact hc 1 _ rfl⟩

set_option maxHeartbeats 2000000 in
set_option maxRecDepth 100000 in
theorem min39 (k : Nat) (A0 : Option Addr) (c0 : Nat) (l0 : List S45) (a1 : Int) (d : Kd S32) (A : Option Addr) (c : Nat) (l : List S32) (m : S32) (W : World)
    (hr0 : Kd.C k45 W A0 l0.length l0) (hc0 : l0.length ≤ c0) (hx : Kd.C d W A l.length l) (hxc : l.length ≤ c) (hsz : d.sz = 2) (hl : 0 < l.length)
    (hd : ∀ y cs, d.K W y cs → k32.K W y cs) (h : minL k l0 a1 l[0] (l.drop 1) = some m) :
    Calls Try.prog 39 #[.slice A l.length c, .func (.func 24) #[.agg #[.slice A0 l0.length c0, .int .u8 a1]] #[]] W fun e w' => ∃ cs, e = .returned (.agg cs.toArray) ∧ d.K W m cs ∧ Below W.heap.size W w' := by
  have HR := Aside0.mk hr0
  have HX := Aside0.mk hx
  have HD := Aside0.mk hd
  have H := Aside0.mk h
  have hm : l.length ≤ 9223372036854775807 := hx.2.1
  clear hr0 hx hd h
  obtain ⟨ad, At0, ct0, rfl, hK0, hlt0, hC0, hc00, hc01⟩ := elem32 HX.out hsz HD.out 0 hl
  rw [Nat.zero_mul, show ad.add 0 = ad from by simp [Addr.add]] at hc00 hc01
  have HC0 := Aside0.mk (And.intro hK0 (And.intro hlt0 hC0))
  clear hK0 hlt0 hC0
  have hn1 : ¬ ((l.length : Int) < 1) := by omega
  have hu32 := Try.underlying32
  have hn0 : (0 : Int) < (l.length : Int) := by omega
  have HL := Aside0.mk (And.intro hc00 hc01)
  clear hc00 hc01
  go_enter Try.func39, Try.ntmps39
  go_wp2_with (first
    | ((with_reducible refine gate_dst (N := 4) rfl ?_)
       refine box_event ?hg (N := 4) ?hd (cs := #[.int .i64 0, .slice none 0 0]) (t := 32) ?hr ?_
       (case hd => rfl)
       (case hg => rfl)
       (case hr => first | (go_simp; done) | (go_simp; rfl))
       intro g4 hg4 w4 hbox4 hb4
       have hc00 : w4.cell? ad = _ := (hb4.cell (World.block_lt_of_cell? _ _ HL.out.1)).trans HL.out.1
       have hc01 : w4.cell? ⟨ad.block, ad.off + 1, none⟩ = _ := (hb4.cell (World.block_lt_of_cell? _ _ HL.out.2)).trans HL.out.2
       have BK4 := Aside0.mk (And.intro hg4 (And.intro hbox4 hb4))
       clear hg4 hbox4 hb4)
    | ((with_reducible refine gate_dst (N := 5) rfl ?_)
       refine box_event ?hg (N := 5) ?hd (cs := #[.int .i64 0, .slice none 0 0]) (t := 32) ?hr ?_
       (case hd => rfl)
       (case hg => rfl)
       (case hr => first | (go_simp; done) | (go_simp; rfl))
       intro g5 hg5 w5 hbox5 hb5
       have hcz_0 : w5.cell? ⟨g5, 0, none⟩ = some (.int .i64 0) := (blk_cell hbox5 0).trans rfl
       have hcz_1 : w5.cell? ⟨g5, 1, none⟩ = some (.slice none 0 0) := (blk_cell hbox5 1).trans rfl
       have hfz_0 := blk_frozen hbox5 0
       have hfz_1 := blk_frozen hbox5 1
       have BK5 := Aside0.mk (And.intro hg5 (And.intro hbox5 hb5))
       clear hg5 hbox5 hb5))
  have hg45 : g4 < g5 := by
    have h1 := BK5.out.1
    have h2 := blk_lt BK4.out.2.1
    omega
  have hw4 : W.heap.size ≤ g4 := Nat.le_of_eq BK4.out.1.symm
  have HB5 := Aside0.mk (show Below W.heap.size W w5 from below_step BK4.out.2.2 BK5.out.2.2)
  have hgn1 : g4 ≠ g5 := by omega
  have hgn2 : g5 ≠ g4 := by omega
  clear hcz_0 hcz_1 hfz_0 hfz_1 hc00 hc01
  go_loopw [6] (fun v6 wr => ∃ (i : Nat) (mm : S32) (Am : Option Addr) (cm : Nat), v6 = .int .i64 i ∧ 1 ≤ i ∧ i ≤ l.length ∧ Aside0 (wr.heap[g5]? = some (.cells #[.int .i64 mm.f0, .slice Am mm.f1.length cm] 32 (0, 0))) ∧ Aside0 (d.K W mm [.int .i64 mm.f0, .slice Am mm.f1.length cm] ∧ mm.f1.length ≤ cm ∧ (Kd.int .i64).C W Am mm.f1.length mm.f1) ∧ Aside0 (minL k l0 a1 mm (l.drop i) = some m) ∧ Aside0 (Below W.heap.size W wr) ∧ Aside0 (wr.heap[g4]? = some (.cells #[.int .i64 0, .slice none 0 0] 32 (0, 0)))) (fun v6 _ => l.length - (intOf v6).toNat)
  case atStart =>
    refine ⟨1, l[0], At0, ct0, by go_num, Nat.le_refl _, hl, ⟨?_⟩, HC0, H, ⟨?_⟩, ⟨?_⟩⟩
    · exact blk_put (blk_put BK5.out.2.1 0 _ rfl) 1 _ rfl
    · exact below_set (below_set HB5.out (by omega)) (by omega)
    · exact blk_far (blk_far (blk_below BK4.out.2.1 BK5.out.2.2) hgn1 _) hgn1 _
  case round =>
    obtain ⟨i, mm, Am, cm, rfl, hi1, hil, HM, HK, H, HB, HG⟩ := hrel
    by_cases hlt : i < l.length
    · obtain ⟨ad', Ati, cti, e', hKi, hlti, hCi, hci0, hci1⟩ := elem32 HX.out hsz HD.out i hlt
      injection e' with e'
      subst e'
      have HCi := Aside0.mk (And.intro hKi (And.intro hlti hCi))
      clear hKi hlti hCi
      have q1 : (i : Int) < (l.length : Int) := by omega
      have q2 : (0 : Int) ≤ (i : Int) := by omega
      replace hci0 := (HB.out.cell (World.block_lt_of_cell? _ _ hci0)).trans hci0
      replace hci1 := (HB.out.cell (World.block_lt_of_cell? _ _ hci1)).trans hci1
      have hm0 : wr.cell? ⟨g5, 0, none⟩ = some (.int .i64 mm.f0) := (blk_cell HM.out 0).trans rfl
      have hm1 : wr.cell? ⟨g5, 1, none⟩ = some (.slice Am mm.f1.length cm) := (blk_cell HM.out 1).trans rfl
      have hf0 := blk_frozen HM.out 0
      have hf1 := blk_frozen HM.out 1
      have hH := H.out
      rw [List.drop_eq_getElem_cons hlt, minL] at hH
      obtain ⟨t, ht, hH2⟩ := Option.bind_eq_some_iff.1 hH
      have HT := Aside0.mk ht
      have H2 := Aside0.mk hH2
      clear ht hH hH2
      have hlb := World.block_lt_of_cell? _ _ hci0
      have hlb1 := World.block_lt_of_cell? _ _ hci1
      go_wp2_with fail
      go_region_with (
        refine (order_orderer_compare.calls k _ _ l0 a1 _ _ _ _ _ _ _ _ t _ ?s1 ?s2 ?s3 ?s4 ?s5 ?s6 HT.out).mono ?_
        (case s1 => repeat (first | exact Kd.C_below HR.out HB.out | apply Kd.C_drew))
        (case s2 => exact hc0)
        (case s3 => repeat (first | exact Kd.C_below HCi.out.2.2 HB.out | apply Kd.C_drew))
        (case s4 => exact HCi.out.2.1)
        (case s5 => repeat (first | exact Kd.C_below HK.out.2.2 HB.out | apply Kd.C_drew))
        (case s6 => exact HK.out.2.1)
        rintro e w' ⟨rfl, hb⟩
        have HBW := Aside0.mk hb
        clear hb
        go_simp)
      all_goals
        have HBC := Aside0.mk (show Below W.heap.size W w' from below_step HB.out (Below.trans (below_drew (Below.refl wr.heap.size wr)) HBW.out))
        have hb1 : Below wr.heap.size wr w' := Below.trans (below_drew (Below.refl wr.heap.size wr)) HBW.out
        have hk5 := blk_below HM.out hb1
        have hk4 := blk_below HG.out hb1
        replace hci0 := (hb1.cell hlb).trans hci0
        replace hci1 := (hb1.cell (World.block_lt_of_cell? _ _ hci1)).trans hci1
        clear hb1 hm0 hm1 hf0 hf1
        have hm0 : w'.cell? ⟨g5, 0, none⟩ = some (.int .i64 mm.f0) := (blk_cell hk5 0).trans rfl
        have hm1 : w'.cell? ⟨g5, 1, none⟩ = some (.slice Am mm.f1.length cm) := (blk_cell hk5 1).trans rfl
        have hf0 := blk_frozen hk5 0
        have hf1 := blk_frozen hk5 1
        have HK5 := Aside0.mk hk5
        have HK4 := Aside0.mk hk4
        clear hk5 hk4
        by_cases ht : t < 0
        · have H3 := H2.out
          rw [if_pos ht] at H3
          have H4 := Aside0.mk H3
          clear H3
          go_wp2_with fail
          go_roundw
          case rel => exact ⟨i + 1, l[i], Ati, cti, by go_num, by omega, by omega, ⟨blk_put (blk_put HK5.out 0 _ rfl) 1 _ rfl⟩, HCi, H4, ⟨below_set (below_set HBC.out (by omega)) (by omega)⟩, ⟨blk_far (blk_far HK4.out hgn1 _) hgn1 _⟩⟩
          case measure => simp [intOf]; omega
        · have H3 := H2.out
          rw [if_neg ht] at H3
          have H4 := Aside0.mk H3
          clear H3
          go_wp2_with fail
          go_roundw
          case rel => exact ⟨i + 1, mm, Am, cm, by go_num, by omega, by omega, HK5, HK, H4, HBC, HK4⟩
          case measure => simp [intOf]; omega
    · obtain rfl : i = l.length := by omega
      have hm0 : wr.cell? ⟨g5, 0, none⟩ = some (.int .i64 mm.f0) := (blk_cell HM.out 0).trans rfl
      have hm1 : wr.cell? ⟨g5, 1, none⟩ = some (.slice Am mm.f1.length cm) := (blk_cell HM.out 1).trans rfl
      have hn0 : wr.cell? ⟨g4, 0, none⟩ = some (.int .i64 0) := (blk_cell HG.out 0).trans rfl
      have hn1 : wr.cell? ⟨g4, 1, none⟩ = some (.slice none 0 0) := (blk_cell HG.out 1).trans rfl
      have hf0 := blk_frozen HG.out 0
      have hf1 := blk_frozen HG.out 1
      go_wp2_with fail
      refine bodyPost_ret (results_single rfl (.cell g4 32 #[.int .i64 mm.f0, .slice Am mm.f1.length cm] (0, 0) _ rfl (blk_put (blk_put HG.out 0 _ rfl) 1 _ rfl) Try.underlying32 rfl (by kernel_rfl) .nil)) rfl ?_
      have e : mm = m := by
        have h := H.out
        rw [List.drop_length, minL] at h
        exact Option.some.inj h
      subst e
      exact ⟨_, rfl, HK.out.1, below_set (below_set HB.out hw4) hw4⟩
end Go.Proofs.Ytjkdfjkaeoklmaa.Q
namespace Go.Proofs.Ytjkdfjkaeoklmaa.Q
open Go.RowKit Go.Proofs.YtjkdfjkaeoklmaaW.PrintWords Go.Proofs.YtjkdfjkaeoklmaaW.PrintLast Go.Proofs.YtjkdfjkaeoklmaaW.PrintMore
set_option linter.unusedVariables false
set_option linter.unusedSimpArgs false
/-- The least of some instantiations; none of none. -/
def minOf (k : Nat) (l0 : List S45) (a1 : Int) : List S32 → Option (Int × List Int × Bool)
  | [] => some (0, [], false)
  | x :: r => (minL k l0 a1 x r).bind fun m => some (m.f0, m.f1, true)
def order_Select.f (k : Nat) (l0 : List S45) (a1 : Int) (l2 : List S38) : Option (Int × List Int × Bool) :=
  if l2.length < 4398046511104 then minOf k l0 a1 ((l2.filter fun x => !x.f1).map (·.f0)) else none
/-- An instantiation that is read, its tags' place told, in a world that is past. -/
def kF (w : World) (p : Nat → Prop) : Kd S32 where
  sz := 2
  E := []
  K := fun _ x cs => Kd.FK k32 w p x cs
  M := fun _ _ _ x cs => Kd.FK k32 w p x cs
  K_len := fun h => k32.K_len (Kd.FK_now h)
  K_one := fun h => k32.K_one (Kd.FK_now h)
  K_below := fun _ h => h
  K_of_M := fun h => h
  M_mono := fun _ h => h
  M_bound := fun h => h
  M_move := fun _ h => h
  M_lower := fun _ h => h
theorem elem38 {W : World} {base n c : Nat} {P : Nat → Prop} {A : Option Addr} {l : List S38} (h : Kd.V k38 38 W base P (.slice A n c) l) (i : Nat) (hi : i < l.length) :
    ∃ ad At ct, A = some ad ∧ Kd.FK k32 W P l[i].f0 [.int .i64 l[i].f0.f0, .slice At l[i].f0.f1.length ct] ∧ W.cell? (ad.add (i * 3)) = some (.int .i64 l[i].f0.f0) ∧ W.cell? ⟨(ad.add (i * 3)).block, (ad.add (i * 3)).off + 1, none⟩ = some (.slice At l[i].f0.f1.length ct) ∧ W.cell? ⟨(ad.add (i * 3)).block, (ad.add (i * 3)).off + 2, none⟩ = some (.bool l[i].f1) := by
  obtain ⟨hn, hc, hF⟩ := Kd.V_at h
  subst hn
  obtain ⟨ad, e, _⟩ := (Kd.F_now hF).2.2 (by omega)
  subst e
  obtain ⟨cs, hl, hK, hcc⟩ := Kd.V_get h z38 (i : Int) (by omega) (by omega)
  rw [Int.toNat_natCast, List.getD_eq_getElem?_getD, List.getElem?_eq_getElem hi] at hK
  rw [Int.toNat_natCast] at hcc
  obtain ⟨At, ct, hcs, hlt, hF2⟩ := k38_openF hK
  rw [hcs] at hcc
  exact ⟨ad, At, ct, rfl, k32_mkF W P _ hlt hF2, hcc 0 _ rfl, by rw [← add_field _ _ 1 (by omega)]; exact hcc 1 _ rfl, by rw [← add_field _ _ 2 (by omega)]; exact hcc 2 _ rfl⟩
theorem box32 {Rr : S32 → List Value → Prop} (W : World) (g : Nat) (hg : W.heap.size = g) (x : S32) (a b : Value) (h : Rr x [a, b]) : ReadsRow Rr 2 (W.alloc (.cells #[a, b] 32)) (some ⟨g, 0, none⟩) 1 [x] := by
  subst hg
  refine ⟨rfl, by omega, fun _ => ⟨_, rfl, fun j p hj => ?_⟩⟩
  match j, hj with
  | 0, hj =>
    obtain rfl := Option.some.inj hj
    refine ⟨[a, b], rfl, h, fun i u hu => ?_⟩
    rw [add_plain]
    match i, hu with
    | 0, hu => simpa using hu
    | 1, hu => simpa using hu

set_option maxHeartbeats 2000000 in
set_option maxRecDepth 100000 in
theorem order_Select.calls (k : Nat) (A0 : Option Addr) (c0 : Nat) (l0 : List (S45)) (a1 : Int) (P2_ : Nat → Prop) (A2 : Option Addr) (c2 : Nat) (l2 : List (S38)) (r1 : Int) (r2 : List Int) (r3 : Bool) (w : World) (hr0 : Kd.C k45 w A0 l0.length l0) (hc0 : l0.length ≤ c0) (hs2 : Kd.V k38 38 w w.heap.size (fun k_ => P2_ k_) (.slice A2 l2.length c2) l2) (h : order_Select.f k l0 a1 l2 = some (r1, r2, r3)) :
    Calls Try.prog 19 #[.slice A0 l0.length c0, .int .u8 a1, .slice A2 l2.length c2] w fun e w' => ∃ v1_ : Value, e = .returned (.tuple #[.agg #[.int .i64 r1, v1_], .bool r3]) ∧ Kd.V (Kd.int .i64) 3 w' w.heap.size (fun k_ => (P2_ k_ ∨ w.heap.size ≤ k_)) v1_ r2 ∧ Below w.heap.size w w' := by
  unfold order_Select.f at h
  have hbig : l2.length < 4398046511104 := by
    by_cases hb : l2.length < 4398046511104
    · exact hb
    · rw [if_neg hb] at h; cases h
  rw [if_pos hbig] at h
  have HR := Aside0.mk hr0
  have HS := Aside0.mk hs2
  have H := Aside0.mk h
  clear hr0 hs2 h
  go_enter Try.func19, Try.ntmps19
  go_wp2_with (first
    | ((with_reducible refine gate_dst (N := 6) rfl ?_)
       refine box_event ?hg (N := 6) ?hd (cs := #[.int .i64 0, .slice none 0 0]) (t := 32) ?hr ?_
       (case hd => rfl)
       (case hg => rfl)
       (case hr => first | (go_simp; done) | (go_simp; rfl))
       intro g6 hg6 w6 hbox6 hb6
       have BK6 := Aside0.mk (And.intro hg6 (And.intro hbox6 hb6))
       clear hg6 hbox6 hb6))
  have hw6 : w.heap.size ≤ g6 := Nat.le_of_eq BK6.out.1.symm
  go_loopw [8, 10, 13] (fun v8 _ v13 wr => ∃ (i : Nat), v13 = .int .i64 i ∧ i ≤ l2.length ∧ Aside0 ((kF w P2_).R 32 wr w.heap.size (fun k => k ≠ g6) v8 (((l2.take i).filter fun x => !x.f1).map (·.f0))) ∧ Aside0 (Below w.heap.size w wr) ∧ Aside0 (wr.heap[g6]? = some (.cells #[.int .i64 0, .slice none 0 0] 32 (0, 0)))) (fun _ _ v13 _ => l2.length - (intOf v13).toNat)
  case atStart => exact ⟨0, rfl, Nat.zero_le _, ⟨by simpa using Kd.R_nil _ _ _ _ _⟩, ⟨BK6.out.2.2⟩, ⟨BK6.out.2.1⟩⟩
  case round =>
    obtain ⟨i, rfl, hi, HO, HB, HG⟩ := hrel
    by_cases hlt : i < l2.length
    · obtain ⟨ad, At, ct, rfl, hFK, hc0', hc1', hc2'⟩ := elem38 HS.out i hlt
      have HFK := Aside0.mk hFK
      clear hFK
      have q1 : (i : Int) < (l2.length : Int) := by omega
      have q2 : (0 : Int) ≤ (i : Int) := by omega
      replace hc0' := (HB.out.cell (World.block_lt_of_cell? _ _ hc0')).trans hc0'
      replace hc1' := (HB.out.cell (World.block_lt_of_cell? _ _ hc1')).trans hc1'
      replace hc2' := (HB.out.cell (World.block_lt_of_cell? _ _ hc2')).trans hc2'
      have htake : ((l2.take (i + 1)).filter fun x => !x.f1).map (·.f0) = ((l2.take i).filter fun x => !x.f1).map (·.f0) ++ (if l2[i].f1 then [] else [l2[i].f0]) := by
        rw [List.take_succ_eq_append_getElem hlt, List.filter_append, List.map_append]
        congr 1
        cases h : l2[i].f1 <;> simp [h]
      have HT := Aside0.mk htake
      clear htake
      have hlen : (((l2.take i).filter fun x => !x.f1).map (·.f0)).length ≤ l2.length := by
        rw [List.length_map]
        exact Nat.le_trans (List.length_filter_le _ _) (by rw [List.length_take]; omega)
      cases hf : l2[i].f1 with
      | true =>
        rw [hf] at hc2'
        rw [hf] at HT
        go_wp2_with (first
          | ((with_reducible refine gate_dst (N := 10) rfl ?_)
             refine box_event ?hg (N := 10) ?hd (cs := #[.int .i64 0, .slice none 0 0, .bool false]) (t := 38) ?hr ?_
             (case hd => rfl)
             (case hg => rfl)
             (case hr => first | (go_simp; done) | (go_simp; rfl))
             intro g10 hg10 w10 hbox10 hb10
             replace hc0' := (hb10.cell (World.block_lt_of_cell? _ _ hc0')).trans hc0'
             replace hc1' := (hb10.cell (World.block_lt_of_cell? _ _ hc1')).trans hc1'
             replace hc2' := (hb10.cell (World.block_lt_of_cell? _ _ hc2')).trans hc2'
             have hcz_0 : w10.cell? ⟨g10, 0, none⟩ = some (.int .i64 0) := (blk_cell hbox10 0).trans rfl
             have hcz_1 : w10.cell? ⟨g10, 1, none⟩ = some (.slice none 0 0) := (blk_cell hbox10 1).trans rfl
             have hcz_2 : w10.cell? ⟨g10, 2, none⟩ = some (.bool false) := (blk_cell hbox10 2).trans rfl
             have hfz_0 := blk_frozen hbox10 0
             have hfz_1 := blk_frozen hbox10 1
             have hfz_2 := blk_frozen hbox10 2
             have BK10 := Aside0.mk (And.intro hg10 (And.intro hbox10 hb10))
             clear hg10 hbox10 hb10))
        go_roundw
        case rel =>
          have hbx : Below wr.heap.size wr (((w10.setCell ⟨g10, 0, none⟩ (.int .i64 l2[i].f0.f0)).setCell ⟨g10, 1, none⟩ (.slice At l2[i].f0.f1.length ct)).setCell ⟨g10, 2, none⟩ (.bool true)) := below_set (below_set (below_set BK10.out.2.2 (Nat.le_of_eq BK10.out.1.symm)) (Nat.le_of_eq BK10.out.1.symm)) (Nat.le_of_eq BK10.out.1.symm)
          exact ⟨i + 1, by go_num, by omega, ⟨by rw [HT.out, if_pos rfl, List.append_nil]; exact Kd.R_below HO.out hbx⟩, ⟨below_step HB.out hbx⟩, ⟨blk_below HG.out hbx⟩⟩
        case measure => simp [intOf]; omega
      | false =>
        rw [hf] at hc2'
        rw [hf] at HT
        go_wp2_with (first
          | ((with_reducible refine gate_dst (N := 10) rfl ?_)
             refine box_event ?hg (N := 10) ?hd (cs := #[.int .i64 0, .slice none 0 0, .bool false]) (t := 38) ?hr ?_
             (case hd => rfl)
             (case hg => rfl)
             (case hr => first | (go_simp; done) | (go_simp; rfl))
             intro g10 hg10 w10 hbox10 hb10
             replace hc0' := (hb10.cell (World.block_lt_of_cell? _ _ hc0')).trans hc0'
             replace hc1' := (hb10.cell (World.block_lt_of_cell? _ _ hc1')).trans hc1'
             replace hc2' := (hb10.cell (World.block_lt_of_cell? _ _ hc2')).trans hc2'
             have hcz_0 : w10.cell? ⟨g10, 0, none⟩ = some (.int .i64 0) := (blk_cell hbox10 0).trans rfl
             have hcz_1 : w10.cell? ⟨g10, 1, none⟩ = some (.slice none 0 0) := (blk_cell hbox10 1).trans rfl
             have hcz_2 : w10.cell? ⟨g10, 2, none⟩ = some (.bool false) := (blk_cell hbox10 2).trans rfl
             have hfz_0 := blk_frozen hbox10 0
             have hfz_1 := blk_frozen hbox10 1
             have hfz_2 := blk_frozen hbox10 2
             have BK10 := Aside0.mk (And.intro hg10 (And.intro hbox10 hb10))
             clear hg10 hbox10 hb10)
          | (at_builtin
             go_loud (refine Kd.R_append_rows (kF w P2_) (Rr := fun x cs => Kd.FK k32 w P2_ x cs) (w0 := w) w.heap.size rfl _ _ 26 32 (.agg #[.int .i64 0, .slice none 0 0]) 32 rfl Try.underlying26 info32 rfl (Nat.zero_lt_succ 1) (by decide) _ (((l2.take i).filter fun x => !x.f1).map (·.f0)) [l2[i].f0] _ 1 1 (fun k => k ≠ g6) (fun _ => False) rfl rfl ?ho (box32 _ _ (by simp [World.setCell]) _ _ _ HFK.out) (fun _ _ h => h) (fun _ h => h.elim) ?hf ?hB ?hb (by omega) ?_)
             (case ho => exact Kd.R_alloc (Kd.R_below HO.out (below_set (below_set (below_set BK10.out.2.2 (Nat.le_of_eq BK10.out.1.symm)) (Nat.le_of_eq BK10.out.1.symm)) (Nat.le_of_eq BK10.out.1.symm))) _)
             (case hf => intro q hq; have := blk_lt BK10.out.2.1; have := blk_lt HG.out; have := BK10.out.1; simp [World.setCell, World.alloc] at hq; omega)
             (case hB => exact below_alloc (below_step HB.out (below_set (below_set (below_set BK10.out.2.2 (Nat.le_of_eq BK10.out.1.symm)) (Nat.le_of_eq BK10.out.1.symm)) (Nat.le_of_eq BK10.out.1.symm))) _)
             (case hb => have := HB.out.size; have := BK10.out.2.2.size; simp [World.setCell, World.alloc]; omega)
             intro v1 w1 HO1 HB1 hg1 hat1))
        go_roundw
        case rel =>
          exact ⟨i + 1, by go_num, by omega, ⟨by rw [HT.out, if_neg (by decide)]; exact HO1⟩, ⟨HB1⟩, ⟨blk_grown (blk_alloc (blk_below HG.out (below_set (below_set (below_set BK10.out.2.2 (Nat.le_of_eq BK10.out.1.symm)) (Nat.le_of_eq BK10.out.1.symm)) (Nat.le_of_eq BK10.out.1.symm))) _) hg1 (fun e => HO.out.1 _ e.symm rfl)⟩⟩
        case measure => simp [intOf]; omega
    · obtain rfl : i = l2.length := by omega
      have HO2 := HO.out
      rw [List.take_length] at HO2
      have HI := Aside0.mk (Kd.R_reads HO2)
      clear HO2 HO
      have H1 := H.out
      have hln : ((l2.filter fun x => !x.f1).map (·.f0)).length ≤ l2.length := by
        rw [List.length_map]
        exact List.length_filter_le _ _
      generalize hleft : (l2.filter fun x => !x.f1).map (·.f0) = left at *
      obtain ⟨Al, cl, rfl, hlc, hCl⟩ := HI.out
      have HCl := Aside0.mk hCl
      clear hCl hleft HI H
      have hn0 : wr.cell? ⟨g6, 0, none⟩ = some (.int .i64 0) := (blk_cell HG.out 0).trans rfl
      have hn1 : wr.cell? ⟨g6, 1, none⟩ = some (.slice none 0 0) := (blk_cell HG.out 1).trans rfl
      have hf0 := blk_frozen HG.out 0
      have hf1 := blk_frozen HG.out 1
      rcases left with _ | ⟨x, r⟩
      · rw [minOf] at H1
        obtain ⟨rfl, h2⟩ := Prod.mk.inj (Option.some.inj H1)
        obtain ⟨rfl, rfl⟩ := Prod.mk.inj h2
        go_wp2_with fail
        refine bodyPost_ret (results_ct rfl _ _ g6 32 #[.int .i64 0, .slice none 0 0] (0, 0) _ rfl (blk_put (blk_put HG.out 0 _ rfl) 1 _ rfl) Try.underlying32 rfl (by kernel_rfl)) rfl ?_
        exact ⟨_, rfl, Kd.V_nil _ _ _ _ _, below_set (below_set HB.out hw6) hw6⟩
      · rw [minOf] at H1
        obtain ⟨m, hm, h2⟩ := Option.bind_eq_some_iff.1 H1
        obtain ⟨rfl, h3⟩ := Prod.mk.inj (Option.some.inj h2)
        obtain ⟨rfl, rfl⟩ := Prod.mk.inj h3
        clear h2 h3
        have HM := Aside0.mk hm
        clear hm H1
        go_wp2_with (go_at_call 39; refine (min39 k _ _ l0 a1 (kF w P2_) _ _ (x :: r) m _ (Kd.C_below HR.out HB.out) hc0 HCl.out hlc rfl (Nat.zero_lt_succ _) (fun y cs h => k32.K_below HB.out (Kd.FK_now h)) HM.out).mono ?_; rintro e w' ⟨cs, rfl, hK, hb⟩; obtain ⟨Am, cm, rfl, hlm, hFm⟩ := k32_openF hK; have hk6 := blk_below HG.out hb; replace hn0 : w'.cell? ⟨g6, 0, none⟩ = some (.int .i64 0) := (blk_cell hk6 0).trans rfl; replace hn1 : w'.cell? ⟨g6, 1, none⟩ = some (.slice none 0 0) := (blk_cell hk6 1).trans rfl; replace hf0 := blk_frozen hk6 0; replace hf1 := blk_frozen hk6 1; have HK6 := Aside0.mk hk6; have HW := Aside0.mk (And.intro hb (And.intro hlm hFm)); clear hb hlm hFm hk6 hK)
        refine bodyPost_ret (results_ct rfl _ _ g6 32 #[.int .i64 m.f0, .slice Am m.f1.length cm] (0, 0) _ rfl (blk_put (blk_put HK6.out 0 _ rfl) 1 _ rfl) Try.underlying32 rfl (by kernel_rfl)) rfl ?_
        have hB := below_set (below_set (below_step HB.out HW.out.1) hw6 (j := 0) (v := .int .i64 m.f0)) hw6 (j := 1) (v := .slice Am m.f1.length cm)
        exact ⟨_, rfl, Kd.V_mk HW.out.2.1 (Kd.F_mono (Kd.F_below HW.out.2.2 hB) (fun _ h => .inl h)), hB⟩
end Go.Proofs.Ytjkdfjkaeoklmaa.Q
namespace Go.Proofs.Ytjkdfjkaeoklmaa.Q
open Go.RowKit Go.Proofs.YtjkdfjkaeoklmaaW.PrintWords
/-- x, put behind all that it does not come ahead of. -/
def insR (lt : S32 → S32 → Bool) (x : S32) (o : List S32) : List S32 := (o.reverse.dropWhile (lt x)).reverse ++ x :: (o.reverse.takeWhile (lt x)).reverse
def sortL (lt : S32 → S32 → Bool) (l : List S32) : List S32 := l.foldl (fun o x => insR lt x o) []
theorem insR_len (lt : S32 → S32 → Bool) (x : S32) (o : List S32) : (insR lt x o).length = o.length + 1 := by
  have h : (o.reverse.takeWhile (lt x)).length + (o.reverse.dropWhile (lt x)).length = o.length := by
    rw [← List.length_append, List.takeWhile_append_dropWhile, List.length_reverse]
  simp [insR]
  omega
theorem insR_mem (lt : S32 → S32 → Bool) (x : S32) (o : List S32) (y : S32) : y ∈ insR lt x o ↔ y = x ∨ y ∈ o := by
  have h : y ∈ o ↔ y ∈ o.reverse.takeWhile (lt x) ∨ y ∈ o.reverse.dropWhile (lt x) := by
    rw [← List.mem_append, List.takeWhile_append_dropWhile, List.mem_reverse]
  rw [h]
  simp only [insR, List.mem_append, List.mem_reverse, List.mem_cons]
  grind
theorem sortL_snoc (lt : S32 → S32 → Bool) (l : List S32) (x : S32) : sortL lt (l ++ [x]) = insR lt x (sortL lt l) := by simp [sortL]
theorem rev_ind {P : List S32 → Prop} (h0 : P []) (h1 : ∀ l x, P l → P (l ++ [x])) (l : List S32) : P l := by
  rw [← List.reverse_reverse l]
  induction l.reverse with
  | nil => exact h0
  | cons x r ih => rw [List.reverse_cons]; exact h1 _ _ ih
theorem sortL_len (lt : S32 → S32 → Bool) (l : List S32) : (sortL lt l).length = l.length := by
  induction l using rev_ind with
  | h0 => rfl
  | h1 l x ih => rw [sortL_snoc, insR_len, ih]; simp
theorem sortL_mem (lt : S32 → S32 → Bool) (l : List S32) (y : S32) : y ∈ sortL lt l ↔ y ∈ l := by
  induction l using rev_ind with
  | h0 => simp [sortL]
  | h1 l x ih => rw [sortL_snoc, insR_mem, ih]; simp; grind
theorem takeWhile_congr' {p q : S32 → Bool} {l : List S32} (h : ∀ y ∈ l, p y = q y) : l.takeWhile p = l.takeWhile q ∧ l.dropWhile p = l.dropWhile q := by
  induction l with
  | nil => simp
  | cons x r ih =>
    have hx := h x (by simp)
    have hr := ih (fun y hy => h y (by simp [hy]))
    simp only [List.takeWhile_cons, List.dropWhile_cons, hx, hr]
    simp
theorem insR_congr {lt lt' : S32 → S32 → Bool} {x : S32} {o : List S32} (h : ∀ y ∈ o, lt x y = lt' x y) : insR lt x o = insR lt' x o := by
  obtain ⟨h1, h2⟩ := takeWhile_congr' (p := lt x) (q := lt' x) (l := o.reverse) (fun y hy => h y (by simpa using hy))
  simp [insR, h1, h2]
theorem sortL_congr {lt lt' : S32 → S32 → Bool} {l : List S32} (h : ∀ x ∈ l, ∀ y ∈ l, lt x y = lt' x y) : sortL lt l = sortL lt' l := by
  induction l using rev_ind with
  | h0 => rfl
  | h1 l x ih =>
    rw [sortL_snoc, sortL_snoc, ih (fun a ha b hb => h a (by simp [ha]) b (by simp [hb]))]
    exact insR_congr (fun y hy => h x (by simp) y (by rw [sortL_mem] at hy; simp [hy]))
/-- Where x comes to stand. -/
theorem insR_at {lt : S32 → S32 → Bool} {x : S32} {o : List S32} (j : Nat) (hj : j ≤ o.length) (hd : ∀ y ∈ o.drop j, lt x y = true) (ht : ∀ y, (o.take j).getLast? = some y → lt x y = false) : insR lt x o = o.take j ++ x :: o.drop j := by
  have hr : o.reverse = (o.drop j).reverse ++ (o.take j).reverse := by rw [← List.reverse_append, List.take_append_drop]
  have h1 : (o.take j).reverse.takeWhile (lt x) = [] ∧ (o.take j).reverse.dropWhile (lt x) = (o.take j).reverse := by
    cases hc : (o.take j).reverse with
    | nil => simp
    | cons y r =>
      have : (o.take j).getLast? = some y := by rw [← List.head?_reverse, hc]; rfl
      have := ht y this
      simp [this]
  have hd' : ∀ y ∈ (o.drop j).reverse, lt x y = true := fun y hy => hd y (by simpa using hy)
  unfold insR
  rw [hr, List.takeWhile_append_of_pos hd', List.dropWhile_append_of_pos hd', h1.1, h1.2]
  simp
end Go.Proofs.Ytjkdfjkaeoklmaa.Q
namespace Go.Proofs.Ytjkdfjkaeoklmaa.Q
open Go.RowKit Go.Proofs.YtjkdfjkaeoklmaaW.PrintWords
set_option linter.unusedVariables false
/-- A world that only has more behind w's blocks. -/
structure BelowOf (w : World) where
  v : World
  h : Below w.heap.size w v
instance (w : World) : Inhabited (BelowOf w) := ⟨⟨w, Below.refl _ _⟩⟩
theorem BelowOf.cell {w : World} {a : Addr} {u : Value} (h : w.cell? a = some u) (p : BelowOf w) : p.v.cell? a = some u := (p.h.cell (World.block_lt_of_cell? w _ h)).trans h
theorem wp_region_below {P : Program} {id : Nat} {Q : Exit → Act → World → Prop} {a : Act} {w : World} {l : List Oper} (hm : P.follows .mixedOrders = true) (hB : Region.lexB .any l.toArray = true)
    (h : wpQuiet P l.toArray (fun w' => ∃ p : BelowOf w, w' = p.v) (fun a' => ∀ w', (∃ p : BelowOf w, w' = p.v) → Q .normal a' w') l a) : (Code.region id l.toArray true).wp P Q a w :=
  wp_region_quiet (C := fun w' => ∃ p : BelowOf w, w' = p.v) hm hB ⟨⟨w.drew, below_drew (Below.refl _ _)⟩, rfl⟩ (by simpa using h)
theorem below_of {P : Program} {f : FuncId} {args : Array Value} {w : World} {p : BelowOf w} {v : Value}
    (h : Calls P f args p.v fun e w' => e = .returned v ∧ Below p.v.heap.size p.v w') : Calls P f args p.v fun e w'' => e = .returned v ∧ ∃ p' : BelowOf w, w'' = p'.v :=
  h.mono fun _ w' ⟨he, hb⟩ => ⟨he, ⟨w', below_step p.h hb⟩, rfl⟩
end Go.Proofs.Ytjkdfjkaeoklmaa.Q
namespace Go.Proofs.Ytjkdfjkaeoklmaa.Q
open Go.RowKit Go.Proofs.YtjkdfjkaeoklmaaW.PrintWords Go.Proofs.YtjkdfjkaeoklmaaW.PrintLast Go.Proofs.YtjkdfjkaeoklmaaW.PrintMore
set_option linter.unusedVariables false
set_option linter.unusedSimpArgs false
/-- Comes x ahead of y, as the comparison tells it. -/
def ltO (k : Nat) (l0 : List S45) (a1 : Int) (x y : S32) : Bool := match order_orderer_compare.f k l0 a1 x.f0 x.f1 y.f0 y.f1 with | some t => decide (t < 0) | none => false
def allO (k : Nat) (l0 : List S45) (a1 : Int) (l : List S32) : Prop := ∀ x ∈ l, ∀ y ∈ l, (order_orderer_compare.f k l0 a1 x.f0 x.f1 y.f0 y.f1).isSome = true
/-- An element of a row of one's own, of instantiations. -/
theorem elemR {w W : World} {P2 ok : Nat → Prop} {base g n c : Nat} {l : List S32} (h : (kF w P2).R 32 W base ok (.slice (some ⟨g, 0, none⟩) n c) l) (i : Nat) {x : S32} (hi : l[i]? = some x) :
    ∃ At ct, Kd.FK k32 w P2 x [.int .i64 x.f0, .slice At x.f1.length ct] ∧ x.f1.length ≤ ct ∧ (Kd.int .i64).C w At x.f1.length x.f1 ∧ W.cell? ⟨g, i * 2, none⟩ = some (.int .i64 x.f0) ∧ W.cell? ⟨g, i * 2 + 1, none⟩ = some (.slice At x.f1.length ct) ∧ W.frozen? ⟨g, i * 2, none⟩ = false ∧ W.frozen? ⟨g, i * 2 + 1, none⟩ = false := by
  obtain ⟨hn, _⟩ := Kd.R_reads' h
  obtain ⟨hil, hx⟩ := List.getElem?_eq_some_iff.1 hi
  obtain ⟨cs, hl, hM, hc, hf⟩ := Kd.R_elem h z32 (i : Int) (by omega) (by omega)
  have hM : Kd.FK k32 w P2 (l.getD (i : Int).toNat z32) cs := hM
  rw [Int.toNat_natCast, List.getD_eq_getElem?_getD, hi] at hM
  rw [Int.toNat_natCast] at hc hf
  obtain ⟨At, ct, rfl, hlt, hF⟩ := k32_openF hM
  exact ⟨At, ct, hM, hlt, Kd.F_now hF, hc 0 _ rfl, hc 1 _ rfl, hf 0, hf 1⟩
theorem setR {w W : World} {P2 ok : Nat → Prop} {base g n c : Nat} {l : List S32} (h : (kF w P2).R 32 W base ok (.slice (some ⟨g, 0, none⟩) n c) l) (i : Nat) (hi : i < l.length) {x : S32} {a b : Value} (hx : Kd.FK k32 w P2 x [a, b]) :
    (kF w P2).R 32 ((W.setCell ⟨g, i * 2, none⟩ a).setCell ⟨g, i * 2 + 1, none⟩ b) base ok (.slice (some ⟨g, 0, none⟩) n c) (l.set i x) := by
  obtain ⟨hn, _⟩ := Kd.R_reads' h
  obtain ⟨cs, hl, hM, hc, hf⟩ := Kd.R_elem h z32 (i : Int) (by omega) (by omega)
  have := (Kd.R_seg (okp := fun _ => False) (j := 0) (seg := [a, b]) h (i : Int) (by omega) (by omega) hl hc (Nat.le_refl 2) (x' := x) (by
    show Kd.FK k32 w P2 x _
    have : cs.drop 2 = [] := List.drop_of_length_le (by rw [hl]; exact Nat.le_refl 2)
    simpa [this] using hx) (fun _ h => h.elim)).1
  rw [Int.toNat_natCast] at this
  exact this

theorem row_swap (pre rest : List S32) (x : S32) (j : Nat) (hjp : j < pre.length) : ((pre.take (j + 1) ++ x :: (pre.drop (j + 1) ++ rest)).set (j + 1) pre[j]).set j x = pre.take j ++ x :: (pre.drop j ++ rest) := by
  have l1 : (pre.take j).length = j := by rw [List.length_take]; omega
  have l2 : (pre.take (j + 1)).length = j + 1 := by rw [List.length_take]; omega
  rw [List.set_append_right _ _ (by omega), l2, Nat.sub_self, List.set_cons_zero, List.take_succ_eq_append_getElem hjp, List.append_assoc, List.set_append_right _ _ (by omega), l1, Nat.sub_self, List.singleton_append, List.set_cons_zero, List.drop_eq_getElem_cons hjp, List.cons_append]

set_option maxHeartbeats 4000000 in
set_option maxRecDepth 100000 in
theorem ins53 (k : Nat) (A0 : Option Addr) (c0 : Nat) (l0 : List S45) (a1 : Int) (P2 : Nat → Prop) (g c : Nat) (l : List S32) (w W : World)
    (hr0 : Kd.C k45 w A0 l0.length l0) (hc0 : l0.length ≤ c0) (hB : Below w.heap.size w W) (hR : (kF w P2).R 32 W w.heap.size (fun _ => True) (.slice (some ⟨g, 0, none⟩) l.length c) l) (ha : allO k l0 a1 l) :
    Calls Try.prog 53 #[.slice (some ⟨g, 0, none⟩) l.length c, .int .i64 0, .int .i64 l.length, .func (.func 24) #[.agg #[.slice A0 l0.length c0, .int .u8 a1]] #[]] W fun e w' =>
      e = .returned (.tuple #[]) ∧ (kF w P2).R 32 w' w.heap.size (fun _ => True) (.slice (some ⟨g, 0, none⟩) l.length c) (sortL (ltO k l0 a1) l) ∧ Below w.heap.size w w' := by
  have HA := Aside0.mk ha
  have HR0 := Aside0.mk hr0
  have HR := Aside0.mk hR
  have HB := Aside0.mk hB
  have hm : l.length ≤ 9223372036854775807 := by
    obtain ⟨_, _, hC⟩ := Kd.R_reads' hR
    exact hC.2.1
  have hu32 := Try.underlying32
  have hwg : w.heap.size ≤ g := Kd.R_base hR g rfl
  clear ha hr0 hR hB
  go_enter Try.func53, Try.ntmps53
  go_wp2_with fail
  go_loopw [8, 9] (fun v8 v9 wr => ∃ (i : Nat), v8 = .int .i64 i ∧ 1 ≤ i ∧ i ≤ l.length + 1 ∧ Aside0 ((kF w P2).R 32 wr w.heap.size (fun _ => True) (.slice (some ⟨g, 0, none⟩) l.length c) (sortL (ltO k l0 a1) (l.take i) ++ l.drop i)) ∧ Aside0 (Below w.heap.size w wr)) (fun v8 _ _ => l.length + 1 - (intOf v8).toNat)
  case atStart =>
    refine ⟨1, by go_num, Nat.le_refl _, by omega, ⟨?_⟩, HB⟩
    have : sortL (ltO k l0 a1) (l.take 1) ++ l.drop 1 = l := by
      cases l with
      | nil => rfl
      | cons x r => simp [sortL, insR]
    rw [this]
    exact HR.out
  case round =>
    obtain ⟨i, rfl, hi1, hi2, HR, HB⟩ := hrel
    by_cases hlt : i < l.length
    · have q1 : (i : Int) < (l.length : Int) := by omega
      have hpl : (sortL (ltO k l0 a1) (l.take i)).length = i := by rw [sortL_len, List.length_take]; omega
      have hpm : ∀ y ∈ sortL (ltO k l0 a1) (l.take i), y ∈ l := fun y hy => List.mem_of_mem_take ((sortL_mem _ _ _).1 hy)
      have hsn : sortL (ltO k l0 a1) (l.take (i + 1)) = insR (ltO k l0 a1) l[i] (sortL (ltO k l0 a1) (l.take i)) := by rw [List.take_succ_eq_append_getElem hlt, sortL_snoc]
      have hxm : l[i] ∈ l := List.getElem_mem _
      have hdr : l.drop i = l[i] :: l.drop (i + 1) := List.drop_eq_getElem_cons hlt
      rw [hdr] at HR
      generalize sortL (ltO k l0 a1) (l.take i) = pre at *
      generalize hrest : l.drop (i + 1) = rest at *
      generalize l[i] = x at *
      have HPM := Aside0.mk hpm
      have HSN := Aside0.mk hsn
      have HXM := Aside0.mk hxm
      have HRST := Aside0.mk hrest
      clear hpm hsn hxm hdr hrest
      go_wp2_with fail
      go_loopw [9] (fun v9 wr => ∃ (j : Nat), v9 = .int .i64 j ∧ j ≤ i ∧ Aside0 ((kF w P2).R 32 wr w.heap.size (fun _ => True) (.slice (some ⟨g, 0, none⟩) l.length c) (pre.take j ++ x :: (pre.drop j ++ rest))) ∧ Aside0 (∀ y ∈ pre.drop j, ltO k l0 a1 x y = true) ∧ Aside0 (Below w.heap.size w wr)) (fun v9 _ => (intOf v9).toNat)
      case atStart =>
        refine ⟨i, rfl, Nat.le_refl _, ⟨?_⟩, ⟨?_⟩, HB⟩
        · rw [List.take_of_length_le (by omega), List.drop_of_length_le (by omega), List.nil_append]; exact HR.out
        · rw [List.drop_of_length_le (by omega)]; intro y hy; cases hy
      case round =>
        obtain ⟨j, rfl, hji, HR, HD, HB⟩ := hrel
        rcases j with _ | j
        · have hq' : decide ((0 : Int) > 0) = false := rfl
          go_wp2_with fail
          go_quiet (fail)
          go_wp2_with fail
          go_roundw
          case rel =>
            refine ⟨i + 1, by first | rfl | go_num, by omega, by omega, ⟨?_⟩, ⟨pw_below_drewN HB.out _⟩⟩
            have e := insR_at (lt := ltO k l0 a1) (x := x) (o := pre) 0 (by omega) HD.out (by simp)
            rw [HSN.out, e, HRST.out, List.append_assoc]
            exact Kd.R_drewN HR.out _
          case measure => simp [intOf]; omega
        · have hjp : j < pre.length := by omega
          have hx0 : (pre.take (j + 1) ++ x :: (pre.drop (j + 1) ++ rest))[j + 1]? = some x := by
            rw [List.getElem?_append_right (by rw [List.length_take]; omega), List.length_take, Nat.min_eq_left (by omega)]; simp
          have hy0 : (pre.take (j + 1) ++ x :: (pre.drop (j + 1) ++ rest))[j]? = some pre[j] := by
            rw [List.getElem?_append_left (by rw [List.length_take]; omega), List.getElem?_take, if_pos (by omega), List.getElem?_eq_getElem hjp]
          obtain ⟨Ax, cx, hKx, hlx, hCx, hx1, hx2, hx3, hx4⟩ := elemR HR.out (j + 1) hx0
          obtain ⟨Ay, cy, hKy, hly, hCy, hy1, hy2, hy3, hy4⟩ := elemR HR.out j hy0
          have hys := HA.out x HXM.out pre[j] (HPM.out _ (List.getElem_mem _))
          obtain ⟨t, ht⟩ := Option.isSome_iff_exists.1 hys
          have hlt' : ltO k l0 a1 x pre[j] = decide (t < 0) := by simp only [ltO, ht]
          have HT := Aside0.mk ht
          have HL := Aside0.mk hlt'
          have HX := Aside0.mk (And.intro hKx (And.intro hlx hCx))
          have HY := Aside0.mk (And.intro hKy (And.intro hly hCy))
          clear hKx hlx hCx hKy hly hCy hx0 hy0 hys ht hlt'
          have q3 : decide (((j + 1 : Nat) : Int) > 0) = true := decide_eq_true (by omega)
          have q4 : ((j + 1 : Nat) : Int) < (l.length : Int) := by omega
          have q5 : (0 : Int) ≤ ((j + 1 : Nat) : Int) := by omega
          have r3 : decide ((j : Int) + 1 > 0) = true := decide_eq_true (by omega)
          have r4 : (j : Int) + 1 < (l.length : Int) := by omega
          have r5 : (0 : Int) ≤ (j : Int) + 1 := by omega
          have r6 : IntKind.i64.wrap (j : Int) = (j : Int) := by rw [i64_w]; exact w64 (by omega) (by omega)
          have r7 : (j : Int) < (l.length : Int) := by omega
          have bx1 := BelowOf.cell hx1
          have bx2 := BelowOf.cell hx2
          have by1 := BelowOf.cell hy1
          have by2 := BelowOf.cell hy2
          go_wp2_with fail
          refine wp_region_below (by kernel_rfl) (by kernel_rfl) ?_
          repeat (quiet_step (first
            | (refine below_of (order_orderer_compare.calls k _ _ l0 a1 _ _ _ _ _ _ _ _ t _ ?s1 ?s2 ?s3 ?s4 ?s5 ?s6 HT.out)
               (case s1 => exact Kd.C_below HR0.out (below_step HB.out (BelowOf.h _)))
               (case s2 => exact hc0)
               (case s3 => exact Kd.C_below HX.out.2.2 (below_step HB.out (BelowOf.h _)))
               (case s4 => exact HX.out.2.1)
               (case s5 => exact Kd.C_below HY.out.2.2 (below_step HB.out (BelowOf.h _)))
               (case s6 => exact HY.out.2.1))))
          refine wpQuiet_nil ?_
          intro _ hw'
          obtain ⟨pq, hw''⟩ := hw'
          subst hw''
          clear bx1 bx2 by1 by2
          have HRp := Aside0.mk (Kd.R_below HR.out pq.h)
          have HBp := Aside0.mk (below_step HB.out pq.h)
          have hx0 : (pre.take (j + 1) ++ x :: (pre.drop (j + 1) ++ rest))[j + 1]? = some x := by
            rw [List.getElem?_append_right (by rw [List.length_take]; omega), List.length_take, Nat.min_eq_left (by omega)]; simp
          have hy0 : (pre.take (j + 1) ++ x :: (pre.drop (j + 1) ++ rest))[j]? = some pre[j] := by
            rw [List.getElem?_append_left (by rw [List.length_take]; omega), List.getElem?_take, if_pos (by omega), List.getElem?_eq_getElem hjp]
          obtain ⟨fx3, fx4⟩ : pq.v.frozen? ⟨g, (j + 1) * 2, none⟩ = false ∧ pq.v.frozen? ⟨g, (j + 1) * 2 + 1, none⟩ = false := by
            obtain ⟨_, _, _, _, _, _, _, h3, h4⟩ := elemR HRp.out (j + 1) hx0
            exact ⟨h3, h4⟩
          obtain ⟨fy3, fy4⟩ : pq.v.frozen? ⟨g, j * 2, none⟩ = false ∧ pq.v.frozen? ⟨g, j * 2 + 1, none⟩ = false := by
            obtain ⟨_, _, _, _, _, _, _, h3, h4⟩ := elemR HRp.out j hy0
            exact ⟨h3, h4⟩
          have hrow := row_swap pre rest x j hjp
          have HROW := Aside0.mk hrow
          clear hrow
          replace hx1 := BelowOf.cell hx1 pq
          replace hx2 := BelowOf.cell hx2 pq
          replace hy1 := BelowOf.cell hy1 pq
          replace hy2 := BelowOf.cell hy2 pq
          clear hx3 hx4 hy3 hy4 hx0 hy0
          by_cases ht : t < 0
          · go_wp2_with fail
            go_region_with fail
            all_goals
              go_wp2_with fail
              go_roundw
              case rel =>
                refine ⟨j, by first | rfl | go_num, by omega, ⟨?_⟩, ⟨?_⟩, ⟨?_⟩⟩
                · rw [← HROW.out]
                  repeat (first | exact setR (setR HRp.out (j + 1) (by simp; omega) HY.out.1) j (by simp; omega) HX.out.1 | apply Kd.R_drew)
                · intro y hy
                  rw [List.drop_eq_getElem_cons hjp] at hy
                  rcases List.mem_cons.1 hy with rfl | hy
                  · rw [HL.out]; exact decide_eq_true ht
                  · exact HD.out y hy
                · repeat (first | exact HBp.out | refine below_set ?_ hwg | apply below_drew)
              case measure => simp [intOf]; try omega
          · go_wp2_with fail
            go_roundw
            case rel =>
              refine ⟨i + 1, by first | rfl | go_num, by omega, by omega, ⟨?_⟩, HBp⟩
              have e := insR_at (lt := ltO k l0 a1) (x := x) (o := pre) (j + 1) (by omega) HD.out (by
                intro y hy
                have e1 : pre.take (j + 1) = pre.take j ++ [pre[j]] := List.take_succ_eq_append_getElem hjp
                rw [e1, List.getLast?_append] at hy
                simp at hy
                subst hy
                rw [HL.out]
                exact decide_eq_false ht)
              rw [HSN.out, e, HRST.out, List.append_assoc]
              exact HRp.out
            case measure => simp [intOf]; omega
    · go_wp2_with fail
      go_end0
      have h1 : l.take i = l := List.take_of_length_le (by omega)
      have h2 : l.drop i = [] := List.drop_of_length_le (by omega)
      have h3 := HR.out
      rw [h1, h2, List.append_nil] at h3
      exact ⟨rfl, h3, HB.out⟩
end Go.Proofs.Ytjkdfjkaeoklmaa.Q
