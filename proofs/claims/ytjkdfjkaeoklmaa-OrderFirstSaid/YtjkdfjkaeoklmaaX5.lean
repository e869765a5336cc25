import Derived.Test.YtjkdfjkaeoklmaaX2
import Derived.WalkSpells
import Derived.Test.YtjkdfjkaeoklmaaX4
import Derived.Deep.RegionLaw
import Derived.Deep.QuietTactic
set_option linter.unusedVariables false
set_option linter.unusedSimpArgs false
namespace Go.Proofs.Ytjkdfjkaeoklmaa.Q
open Go.RowKit Go.Proofs.YtjkdfjkaeoklmaaW.PrintWords Go.Proofs.YtjkdfjkaeoklmaaW.PrintLast Go.Proofs.YtjkdfjkaeoklmaaW.PrintMore
set_option linter.unusedVariables false
set_option linter.unusedSimpArgs false

/-- The empty literal. -/
theorem _root_.Go.Proofs.YtjkdfjkaeoklmaaW.PrintWords.Kd.R_lit0 {α : Type} (d : Kd α) (e : Nat) (w : World) : d.R e (w.alloc (.cells #[] e)) w.heap.size (fun _ => True) (.slice (some ⟨w.heap.size, 0, none⟩) 0 0) [] :=
  ⟨fun _ _ => trivial, by simpa using OwnRow.lit (R := d.M (w.alloc (.cells #[] e)) w.heap.size _) (size := d.sz) (e := e) w w.heap.size (ps := []) (inner := []) (Reps.none _ _) (Nat.le_refl _) (by simp)⟩

def slices_Clone_int_int.f (l0 : List Int) : Option (List Int) := if l0.length < 17592186044416 then some l0 else none

set_option maxHeartbeats 400000 in
theorem slices_Clone_int_int.calls (A0 : Option Addr) (c0 : Nat) (l0 : List Int) (r : List Int) (w : World) (hr0 : Kd.C (Kd.int .i64) w A0 l0.length l0) (hc0 : l0.length ≤ c0) (h : slices_Clone_int_int.f l0 = some r) :
    Calls Try.prog 33 #[.slice A0 l0.length c0] w fun e w' => ∃ v0_ : Value, e = .returned v0_ ∧ Kd.R (Kd.int .i64) 3 w' w.heap.size (fun _ => True) v0_ r ∧ Below w.heap.size w w' := by
  unfold slices_Clone_int_int.f at h
  split at h
  · rename_i hlt
    obtain rfl := Option.some.inj h
    have qT : ∀ (w : World) (a : Option Addr) (n c n' c' : Nat), (binOp .eql 30 (.slice a n c) (.slice none n' c')).run Try.prog w = .ok (.bool a.isNone) w := fun w a n c n' c' => Lib.run_eql_slice_nil w _ _ a n c n' c' Try.underlying30
    have HR := Aside0.mk hr0
    clear hr0 h
    rcases A0 with _ | ad
    · have h0 : l0 = [] := by
        rcases l0 with _ | ⟨x, l⟩
        · rfl
        · obtain ⟨ad, h, _⟩ := HR.out.2.2 (by simp)
          cases h
      subst h0
      go_enter Try.func33, Try.ntmps33
      go_wp2
      go_ret
      exact ⟨_, rfl, Kd.R_nil _ _ _ _ _, Below.refl _ _⟩
    · go_enter Try.func33, Try.ntmps33
      go_wp2_with (at_builtin; refine Kd.R_append_rows (Kd.int .i64) (w0 := w) w.heap.size rfl _ _ 30 3 (.int .i64 0) 8 rfl Try.underlying30 info3 rfl (by decide) (by decide) _ [] l0 (some ad) l0.length c0 (fun _ => True) (fun k => w.heap.size ≤ k ∧ False) rfl rfl (Kd.R_lit0 (Kd.int .i64) 3 w) (Kd.C_below HR.out ((Below.refl _ _).alloc (Nat.le_refl _) _)) (fun _ _ h => h) (fun _ h => h.2.elim) (fun _ _ => trivial) ((Below.refl _ _).alloc (Nat.le_refl _) _) (by simp) (by simp; omega) ?_; intro v1 w1 HO1 HB1 hg1 hat1)
      go_ret
      exact ⟨_, rfl, by simpa using HO1, HB1⟩
  · cases h
end Go.Proofs.Ytjkdfjkaeoklmaa.Q
namespace Go.Proofs.Ytjkdfjkaeoklmaa.Q
open Go.RowKit Go.Proofs.YtjkdfjkaeoklmaaW.PrintWords Go.Proofs.YtjkdfjkaeoklmaaW.PrintLast Go.Proofs.YtjkdfjkaeoklmaaW.PrintMore
set_option linter.unusedVariables false
set_option linter.unusedSimpArgs false
set_option maxHeartbeats 1000000 in
theorem sort12 (u : Value) (l0 r : List Int) (k : Nat) (w0 w : World) (hB : Below w0.heap.size w0 w) (ho : Kd.R (Kd.int .i64) 3 w w0.heap.size (fun _ => True) u l0) (hn : l0.length ≤ 12) (h : slices_insertionSortOrdered_int.f k l0 0 l0.length = some r) :
    Calls Try.prog 35 #[u] w fun e w' => e = .returned (.tuple #[]) ∧ Kd.R (Kd.int .i64) 3 w' w0.heap.size (fun _ => True) u r ∧ Below w0.heap.size w0 w' := by
  have HO := Aside0.mk ho
  have HB := Aside0.mk hB
  have H := Aside0.mk h
  clear ho hB h
  obtain ⟨A, c, rfl⟩ := Kd.R_slice HO.out
  go_enter Try.func35, Try.ntmps35
  go_wp2_with fail
  refine (bitsLen _ _ (by omega) (by omega)).mono ?_
  rintro e w' ⟨q, rfl, rfl⟩
  go_wp2_with fail
  refine (pdq12 _ l0 r _ _ k w0 _ HB.out HO.out (by omega) (by omega) H.out).mono ?_
  rintro e w' ⟨rfl, HO1, HB1⟩
  go_wp2_with fail
  first | go_end0 | ((try simp only [Exit.inBlock, Exit.then]); refine bodyPost_ret (results_none rfl _ _ _) rfl ?_)
  exact ⟨rfl, HO1, HB1⟩

/-- The positive ones, falling. -/
def recency (l : List Int) : List Int := (srt (l.filter pos?)).reverse
def order_Recency.f (l0 : List Int) : Option (List Int) := if l0.length ≤ 12 then some (recency l0) else none
set_option maxHeartbeats 1000000 in
theorem order_Recency.calls (A0 : Option Addr) (c0 : Nat) (l0 : List Int) (r : List Int) (w : World) (hr0 : Kd.C (Kd.int .i64) w A0 l0.length l0) (hc0 : l0.length ≤ c0) (h : order_Recency.f l0 = some r) :
    Calls Try.prog 15 #[.slice A0 l0.length c0] w fun e w' => ∃ v0_ : Value, e = .returned v0_ ∧ Kd.R (Kd.int .i64) 3 w' w.heap.size (fun _ => True) v0_ r ∧ Below w.heap.size w w' := by
  unfold order_Recency.f at h
  by_cases hl : l0.length ≤ 12
  · rw [if_pos hl] at h
    obtain rfl := Option.some.inj h
    have hfl : (l0.filter pos?).length ≤ 12 := Nat.le_trans (List.length_filter_le _ _) hl
    obtain ⟨k, hk⟩ := (ins_val (l0.filter pos?) (by omega)).rounds
    have hsl : (srt (l0.filter pos?)).length ≤ 12 := by rw [(srt_perm _).length_eq]; exact hfl
    obtain ⟨k', hk'⟩ := (rev_val (srt (l0.filter pos?)) (by omega)).rounds
    have HK := Aside0.mk hk
    have HK' := Aside0.mk hk'
    have HR := Aside0.mk hr0
    clear h hr0 hk hk'
    go_enter Try.func15, Try.ntmps15
    go_wp2_with fail
    refine (slices_Clone_int_int.calls A0 c0 l0 l0 w HR.out hc0 (by unfold slices_Clone_int_int.f; rw [if_pos (by omega)])).mono ?_
    rintro e w1 ⟨v0, rfl, HO1, HB1⟩
    go_wp2_with fail
    refine (del34 v0 l0 w w1 HB1 HO1).mono ?_
    rintro e w2 ⟨v1, rfl, HO2, HB2⟩
    go_wp2_with fail
    refine (sort12 v1 _ _ k w w2 HB2 HO2 hfl HK.out).mono ?_
    rintro e w3 ⟨rfl, HO3, HB3⟩
    go_wp2_with fail
    refine (slices_Reverse_int_int.calls k' _ v1 _ _ w w3 HB3 HO3 HK'.out).mono ?_
    rintro e w4 ⟨rfl, HO4, HB4, _⟩
    go_wp2_with fail
    go_ret
    exact ⟨v1, rfl, Kd.R_mono HO4 (fun _ _ => trivial), HB4⟩
  · rw [if_neg hl] at h
    cases h
end Go.Proofs.Ytjkdfjkaeoklmaa.Q
-- Made by this session's wip/tools/myprint.py (the kit's print.py, with this session's hooks) out of the translation; Lean checks it.
namespace Go.Proofs.Ytjkdfjkaeoklmaa.Q
open Go.RowKit Go.Proofs.YtjkdfjkaeoklmaaW.PrintWords Go.Proofs.YtjkdfjkaeoklmaaW.PrintLast Go.Proofs.YtjkdfjkaeoklmaaW.PrintMore
attribute [local go_sem] max2_int min2_int max_two min_two max_three min_three max_four min_four   -- for this text's walks alone
set_option linter.unusedVariables false
set_option linter.unusedSimpArgs false

/-! ### order_orderer_compare: function 24 -/
def order_orderer_compare.j0 : Nat → Int → List (S45) → Int → Int → List Int → Int → List Int → Option (Int)
 | 0, _, _, _, _, _, _, _ => none
 | k + 1, x7, x274000, x274001, x275000, x275001, x276000, x276001 => (order_Recency.f x276001).bind fun t279 => ((order_Recency.f x275001).bind fun t282 => ((slices_Compare_int_int.f k t279 t282).bind fun t285 => ((order_orderer_strength.f k x274000 x274001 x276000).bind fun t286 => ((order_orderer_strength.f k x274000 x274001 x275000).bind fun t287 => ((cmp_Compare_int.f t286 t287).bind fun t288 => ((cmp_Compare_int.f x275000 x276000).bind fun t289 => ((slices_Compare_int_int.f k x275001 x276001).bind fun t290 => ((cmp_Or_int.f k (([x7, t285, t288, t289, t290] : List Int))).bind fun t294 => (some t294)))))))))
def order_orderer_compare.f (k : Nat) (l0_0 : List (S45)) (a0_1 : Int) (a1_0 : Int) (l1_1 : List Int) (a2_0 : Int) (l2_1 : List Int) : Option (Int) := if a0_1 = 1 then ((order_first.f a2_0 l2_1).bind fun t276 => ((order_first.f a1_0 l1_1).bind fun t277 => ((cmp_Compare_int.f t276 t277).bind fun t278 => (order_orderer_compare.j0 k t278 l0_0 a0_1 a1_0 l1_1 a2_0 l2_1)))) else (order_orderer_compare.j0 k 0 l0_0 a0_1 a1_0 l1_1 a2_0 l2_1)
theorem order_orderer_compare.mono_l : ∀ k, (∀ y0 y1 y2 y3 y4 y5 y6, LeO (order_orderer_compare.j0 k y0 y1 y2 y3 y4 y5 y6) (order_orderer_compare.j0 (k + 1) y0 y1 y2 y3 y4 y5 y6))
 | 0 => fun _ _ _ _ _ _ _ r h => by simp [order_orderer_compare.j0] at h
 | k + 1 => by
  have ih0 := order_orderer_compare.mono_l k
  ·intro y0 y1 y2 y3 y4 y5 y6
   unfold order_orderer_compare.j0
   repeat' first
   | (with_reducible exact ih0 _ _ _ _ _ _ _)
   | (with_reducible exact cmp_Or_int.mono _ _)
   | (with_reducible exact order_orderer_strength.mono _ _ _ _)
   | (with_reducible exact slices_Compare_int_int.mono _ _ _)
   | (with_reducible exact LeO.refl _)
   | (with_reducible exact LeO.none _)
   | (with_reducible refine LeO.ite ?_ ?_)
   | (with_reducible refine LeO.bind ?_ (fun _ => ?_))
   | exact ih0 _ _ _ _ _ _ _
   | exact cmp_Or_int.mono _ _
   | exact order_orderer_strength.mono _ _ _ _
   | exact slices_Compare_int_int.mono _ _ _
   | exact LeO.none _
   | refine LeO.ite ?_ ?_
   | refine LeO.bind ?_ (fun _ => ?_)
theorem order_orderer_compare.mono : ∀ a0 a1 a2 a3 a4 a5 k, LeO (order_orderer_compare.f k a0 a1 a2 a3 a4 a5) (order_orderer_compare.f (k + 1) a0 a1 a2 a3 a4 a5) := by
 intro a0 a1 a2 a3 a4 a5 k
 have ih0 := order_orderer_compare.mono_l k
 unfold order_orderer_compare.f
 repeat' first
   | (with_reducible exact ih0 _ _ _ _ _ _ _)
   | (with_reducible exact cmp_Or_int.mono _ _)
   | (with_reducible exact order_orderer_strength.mono _ _ _ _)
   | (with_reducible exact slices_Compare_int_int.mono _ _ _)
   | (with_reducible exact LeO.refl _)
   | (with_reducible exact LeO.none _)
   | (with_reducible refine LeO.ite ?_ ?_)
   | (with_reducible refine LeO.bind ?_ (fun _ => ?_))
   | exact ih0 _ _ _ _ _ _ _
   | exact cmp_Or_int.mono _ _
   | exact order_orderer_strength.mono _ _ _ _
   | exact slices_Compare_int_int.mono _ _ _
   | exact LeO.none _
   | refine LeO.ite ?_ ?_
   | refine LeO.bind ?_ (fun _ => ?_)
def order_orderer_compare.T4 : Bool × List (List Nat × List Nat) := (true, [([], []), ([], []), ([1], [1]), ([2], [2]), ([], []), ([4], [4]), ([5, 3], [5]), ([3, 6, 6], [3, 6]), ([], []), ([], []), ([9], [9]), ([8, 10, 7], [8, 10]), ([], []), ([], []), ([13], [13]), ([12, 14, 11], [12, 14]), ([11, 15, 15], [11, 15]), ([], []), ([17], [17]), ([], []), ([19], [19]), ([18, 20, 16], [18, 20]), ([], []), ([22], [22]), ([], []), ([24], [24]), ([23, 25, 21], [23, 25]), ([0, 7, 16, 21, 26], [0, 7, 16, 21, 26]), ([27, 26], [27]), ([28, 28, 0, 1, 2, 3, 4, 5, 6, 7, 8, 9, 10, 11, 12, 13, 14, 15, 16, 17, 18, 19, 20, 21, 22, 23, 24, 25, 26, 27, 28], [28])])
def order_orderer_compare.B4 : List Nat := [0, 0, 2, 6, 0, 16, 62, 126, 0, 0, 512, 2046, 0, 0, 8192, 32766, 65534, 0, 131072, 0, 524288, 2097150, 0, 4194304, 0, 16777216, 67108862, 134217727, 268435455, 536870911]
theorem order_orderer_compare.tab4 : rtab .any (opsOf Try.f24 4) = order_orderer_compare.T4 := by kernel_rfl
theorem order_orderer_compare.bits4 : waitsOk order_orderer_compare.T4.2 order_orderer_compare.B4 = true := by kernel_rfl
set_option maxHeartbeats 8000000 in
set_option maxRecDepth 100000 in
theorem order_orderer_compare.calls (k : Nat) (A0_0 : Option Addr) (c0_0 : Nat) (l0_0 : List (S45)) (a0_1 : Int) (a1_0 : Int) (A1_1 : Option Addr) (c1_1 : Nat) (l1_1 : List Int) (a2_0 : Int) (A2_1 : Option Addr) (c2_1 : Nat) (l2_1 : List Int) (r : Int) (w : World) (hr0_0 : Kd.C k45 w A0_0 l0_0.length l0_0) (hc0_0 : l0_0.length ≤ c0_0) (hr1_1 : Kd.C (Kd.int .i64) w A1_1 l1_1.length l1_1) (hc1_1 : l1_1.length ≤ c1_1) (hr2_1 : Kd.C (Kd.int .i64) w A2_1 l2_1.length l2_1) (hc2_1 : l2_1.length ≤ c2_1) (h : order_orderer_compare.f k l0_0 a0_1 a1_0 l1_1 a2_0 l2_1 = some r) :
  Calls Try.prog 24 #[.agg #[.slice A0_0 l0_0.length c0_0, .int .u8 a0_1], .agg #[.int .i64 a1_0, .slice A1_1 l1_1.length c1_1], .agg #[.int .i64 a2_0, .slice A2_1 l2_1.length c2_1]] w fun e w' => e = .returned (.int .i64 r) ∧ Below w.heap.size w w' := by
 have hu53 := Try.underlying53
 have hu32 := Try.underlying32
 have HR0_0 := Aside0.mk hr0_0
 have HC0_0 := Aside0.mk hc0_0
 clear hr0_0 hc0_0
 have HR1_1 := Aside0.mk hr1_1
 have HC1_1 := Aside0.mk hc1_1
 clear hr1_1 hc1_1
 have HR2_1 := Aside0.mk hr2_1
 have HC2_1 := Aside0.mk hc2_1
 clear hr2_1 hc2_1
 have HB := Aside0.mk (Below.refl w.heap.size w)
 have H : (if a0_1 = 1 then ((order_first.f a2_0 l2_1).bind fun t276 => ((order_first.f a1_0 l1_1).bind fun t277 => ((cmp_Compare_int.f t276 t277).bind fun t278 => (order_orderer_compare.j0 k t278 l0_0 a0_1 a1_0 l1_1 a2_0 l2_1)))) else (order_orderer_compare.j0 k 0 l0_0 a0_1 a1_0 l1_1 a2_0 l2_1)) = some r := h
 clear h
 have HC4 := Aside0.mk H
 clear H
 go_enter Try.func24, Try.ntmps24
 go_upto_if 10 with (first | ((with_reducible refine gate_dst (N := 3) rfl ?_); refine box_event ?hg (N := 3) ?hd (cs := #[.slice A0_0 l0_0.length c0_0, .int .u8 a0_1]) (t := 53) ?hr ?_; (case hd => rfl); (case hg => rfl); (case hr => first | (go_simp; done) | (go_simp; rfl)); intro gb273 hg w5 hbox hb; have n0_ := Aside0.mk (below_step (by repeat (first | (with_reducible first | exact HB.out | apply below_alloc | apply pw_below_drewN | apply below_drew1) | exact HB.out)) hb); have n1_ := Aside0.mk (hbox); have n2_ := Aside0.mk ((by rw [hg]; exact (below_size (by repeat (first | (with_reducible first | exact HB.out | apply below_alloc | apply pw_below_drewN | apply below_drew1) | exact HB.out))) : w.heap.size ≤ gb273)); have n3_ := Aside0.mk ((by rw [hg]; exact (below_size (by repeat (first | (with_reducible first | exact HB.out | apply below_alloc | apply pw_below_drewN | apply below_drew1) | exact HB.out))) : w.heap.size ≤ gb273)); clear HB; have HB := n0_; have BK273 := n1_; have GW273 := n2_; have GE273 := n3_; clear n0_ n1_ n2_ n3_; clear hb hbox hg) | ((with_reducible refine gate_dst (N := 4) rfl ?_); refine box_event ?hg (N := 4) ?hd (cs := #[.int .i64 a1_0, .slice A1_1 l1_1.length c1_1]) (t := 32) ?hr ?_; (case hd => rfl); (case hg => rfl); (case hr => first | (go_simp; done) | (go_simp; rfl)); intro gb274 hg w6 hbox hb; have n0_ := Aside0.mk (blk_below (g := gb273) (o := .cells #[.slice A0_0 l0_0.length c0_0, .int .u8 a0_1] 53 (0, 0)) (by (with_reducible repeat (first | refine blk_drewN ?_ _ | refine blk_drew ?_ | refine blk_alloc ?_ _)); exact BK273.out) hb); have n1_ := Aside0.mk (below_step (by repeat (first | (with_reducible first | exact HB.out | apply below_alloc | apply pw_below_drewN | apply below_drew1 | refine below_set ?_ GE273.out) | exact HB.out)) hb); have n2_ := Aside0.mk (hbox); have n3_ := Aside0.mk ((by rw [hg]; exact (below_size (by repeat (first | (with_reducible first | exact HB.out | apply below_alloc | apply pw_below_drewN | apply below_drew1 | refine below_set ?_ GE273.out) | exact HB.out))) : w.heap.size ≤ gb274)); have n4_ := Aside0.mk ((by rw [hg]; exact (below_size (by repeat (first | (with_reducible first | exact HB.out | apply below_alloc | apply pw_below_drewN | apply below_drew1 | refine below_set ?_ GE273.out) | exact HB.out))) : w.heap.size ≤ gb274)); have n5_ := Aside0.mk ((by rw [hg]; exact Nat.ne_of_lt (blk_lt (g := gb273) (o := .cells #[.slice A0_0 l0_0.length c0_0, .int .u8 a0_1] 53 (0, 0)) (by (with_reducible repeat (first | refine blk_drewN ?_ _ | refine blk_drew ?_ | refine blk_alloc ?_ _)); exact BK273.out)) : gb273 ≠ gb274)); have n6_ := Aside0.mk ((by rw [hg]; exact Nat.ne_of_gt (blk_lt (g := gb273) (o := .cells #[.slice A0_0 l0_0.length c0_0, .int .u8 a0_1] 53 (0, 0)) (by (with_reducible repeat (first | refine blk_drewN ?_ _ | refine blk_drew ?_ | refine blk_alloc ?_ _)); exact BK273.out)) : gb274 ≠ gb273)); clear BK273; clear HB; have BK273 := n0_; have HB := n1_; have BK274 := n2_; have GW274 := n3_; have GE274 := n4_; have NB273_274 := n5_; have NB274_273 := n6_; clear n0_ n1_ n2_ n3_ n4_ n5_ n6_; clear hb hbox hg) | ((with_reducible refine gate_dst (N := 5) rfl ?_); refine box_event ?hg (N := 5) ?hd (cs := #[.int .i64 a2_0, .slice A2_1 l2_1.length c2_1]) (t := 32) ?hr ?_; (case hd => rfl); (case hg => rfl); (case hr => first | (go_simp; done) | (go_simp; rfl)); intro gb275 hg w7 hbox hb; have n0_ := Aside0.mk (blk_below (g := gb273) (o := .cells #[.slice A0_0 l0_0.length c0_0, .int .u8 a0_1] 53 (0, 0)) (by (with_reducible repeat (first | refine blk_drewN ?_ _ | refine blk_drew ?_ | refine blk_alloc ?_ _)); exact BK273.out) hb); have n1_ := Aside0.mk (blk_below (g := gb274) (o := .cells #[.int .i64 a1_0, .slice A1_1 l1_1.length c1_1] 32 (0, 0)) (by (with_reducible repeat (first | refine blk_drewN ?_ _ | refine blk_drew ?_ | refine blk_alloc ?_ _)); exact BK274.out) hb); have n2_ := Aside0.mk (below_step (by repeat (first | (with_reducible first | exact HB.out | apply below_alloc | apply pw_below_drewN | apply below_drew1 | refine below_set ?_ GE273.out | refine below_set ?_ GE274.out) | exact HB.out)) hb); have n3_ := Aside0.mk (hbox); have n4_ := Aside0.mk ((by rw [hg]; exact (below_size (by repeat (first | (with_reducible first | exact HB.out | apply below_alloc | apply pw_below_drewN | apply below_drew1 | refine below_set ?_ GE273.out | refine below_set ?_ GE274.out) | exact HB.out))) : w.heap.size ≤ gb275)); have n5_ := Aside0.mk ((by rw [hg]; exact (below_size (by repeat (first | (with_reducible first | exact HB.out | apply below_alloc | apply pw_below_drewN | apply below_drew1 | refine below_set ?_ GE273.out | refine below_set ?_ GE274.out) | exact HB.out))) : w.heap.size ≤ gb275)); have n6_ := Aside0.mk ((by rw [hg]; exact Nat.ne_of_lt (blk_lt (g := gb273) (o := .cells #[.slice A0_0 l0_0.length c0_0, .int .u8 a0_1] 53 (0, 0)) (by (with_reducible repeat (first | refine blk_drewN ?_ _ | refine blk_drew ?_ | refine blk_alloc ?_ _)); exact BK273.out)) : gb273 ≠ gb275)); have n7_ := Aside0.mk ((by rw [hg]; exact Nat.ne_of_gt (blk_lt (g := gb273) (o := .cells #[.slice A0_0 l0_0.length c0_0, .int .u8 a0_1] 53 (0, 0)) (by (with_reducible repeat (first | refine blk_drewN ?_ _ | refine blk_drew ?_ | refine blk_alloc ?_ _)); exact BK273.out)) : gb275 ≠ gb273)); have n8_ := Aside0.mk ((by rw [hg]; exact Nat.ne_of_lt (blk_lt (g := gb274) (o := .cells #[.int .i64 a1_0, .slice A1_1 l1_1.length c1_1] 32 (0, 0)) (by (with_reducible repeat (first | refine blk_drewN ?_ _ | refine blk_drew ?_ | refine blk_alloc ?_ _)); exact BK274.out)) : gb274 ≠ gb275)); have n9_ := Aside0.mk ((by rw [hg]; exact Nat.ne_of_gt (blk_lt (g := gb274) (o := .cells #[.int .i64 a1_0, .slice A1_1 l1_1.length c1_1] 32 (0, 0)) (by (with_reducible repeat (first | refine blk_drewN ?_ _ | refine blk_drew ?_ | refine blk_alloc ?_ _)); exact BK274.out)) : gb275 ≠ gb274)); clear BK273; clear BK274; clear HB; have BK273 := n0_; have BK274 := n1_; have HB := n2_; have BK275 := n3_; have GW275 := n4_; have GE275 := n5_; have NB273_275 := n6_; have NB275_273 := n7_; have NB274_275 := n8_; have NB275_274 := n9_; clear n0_ n1_ n2_ n3_ n4_ n5_ n6_ n7_ n8_ n9_; clear hb hbox hg; have hnb8 := NB273_274.out; have hnc8 := NB274_273.out; have hnb9 := NB273_275.out; have hnc9 := NB275_273.out; have hcz10_0 : w7.cell? ⟨gb273, 0, none⟩ = some (.slice A0_0 l0_0.length c0_0) := (blk_cell BK273.out 0).trans rfl; have hcz10_1 : w7.cell? ⟨gb273, 1, none⟩ = some (.int .u8 a0_1) := (blk_cell BK273.out 1).trans rfl; have hfz10_0 := blk_frozen BK273.out 0; have hfz10_1 := blk_frozen BK273.out 1))
 (try simp only [Act.put, List.setIfInBounds_toArray, List.set_cons_zero, List.set_cons_succ])
 go_cut [7] (fun v7 wc => ∃ (kq : Nat) (x7_3 : Int), v7 = .int .i64 x7_3 ∧ Aside0 (order_orderer_compare.j0 kq x7_3 l0_0 a0_1 a1_0 l1_1 a2_0 l2_1 = some r) ∧ Aside0 (kq ≤ k) ∧ Aside0 (wc.heap[gb273]? = some (.cells #[(.slice A0_0 l0_0.length c0_0), .int .u8 a0_1] 53 (0, 0))) ∧ Aside0 (wc.heap[gb274]? = some (.cells #[.int .i64 a1_0, (.slice A1_1 l1_1.length c1_1)] 32 (0, 0))) ∧ Aside0 (wc.heap[gb275]? = some (.cells #[.int .i64 a2_0, (.slice A2_1 l2_1.length c2_1)] 32 (0, 0))) ∧ Aside0 (Below w.heap.size w wc))
 case first =>
  have H := HC4.out
  clear HC4
  by_cases c11 : a0_1 = 1
  ·rw [if_pos c11] at H
   have c11b0 : (a0_1 == 1) = true := beq_iff_eq.mpr c11
   have c11b1 : (a0_1 != 1) = false := bne_eq_false_iff_eq.mpr c11
   clear c11
   (first | rw [c11b0] | (simp only [i64_w, i32_w]; rw [c11b0]) | skip)
   replace H := Option.bind_eq_some_iff.mp H
   obtain ⟨t276, A120, H⟩ := H
   replace H : ((order_first.f a1_0 l1_1).bind fun t277 => ((cmp_Compare_int.f t276 t277).bind fun t278 => (order_orderer_compare.j0 k t278 l0_0 a0_1 a1_0 l1_1 a2_0 l2_1))) = some r := H
   have A12 := Aside0.mk A120
   clear A120
   replace H := Option.bind_eq_some_iff.mp H
   obtain ⟨t277, A130, H⟩ := H
   replace H : ((cmp_Compare_int.f t276 t277).bind fun t278 => (order_orderer_compare.j0 k t278 l0_0 a0_1 a1_0 l1_1 a2_0 l2_1)) = some r := H
   have A13 := Aside0.mk A130
   clear A130
   replace H := Option.bind_eq_some_iff.mp H
   obtain ⟨t278, A140, H⟩ := H
   replace H : (order_orderer_compare.j0 k t278 l0_0 a0_1 a1_0 l1_1 a2_0 l2_1) = some r := H
   have A14 := Aside0.mk A140
   clear A140
   have H' := Aside0.mk H
   clear H
   try go_wp2
   have n0_ := Aside0.mk (blk_drew BK273.out)
   have n1_ := Aside0.mk (blk_drew BK274.out)
   have n2_ := Aside0.mk (blk_drew BK275.out)
   have n3_ := Aside0.mk (below_drew1 HB.out)
   clear BK273
   clear BK274
   clear BK275
   clear HB
   have BK273 := n0_
   have BK274 := n1_
   have BK275 := n2_
   have HB := n3_
   clear n0_ n1_ n2_ n3_
   refine start_ (n := 6) (S := fun w' => w'.cell? ⟨gb275, 0, none⟩ = some (.int .i64 a2_0) ∧ w'.cell? ⟨gb275, 1, none⟩ = some (.slice A2_1 l2_1.length c2_1) ∧ w'.cell? ⟨gb274, 0, none⟩ = some (.int .i64 a1_0) ∧ w'.cell? ⟨gb274, 1, none⟩ = some (.slice A1_1 l1_1.length c1_1)) (ds := []) #[false, false, false, false, false, false] (by kernel_rfl) rfl rfl ⟨(blk_cell BK275.out 0).trans rfl, (blk_cell BK275.out 1).trans rfl, (blk_cell BK274.out 0).trans rfl, (blk_cell BK274.out 1).trans rfl⟩ (fun hHeld => ?_)
   generalize w7.drew = w15 at BK273 BK274 BK275 HB hHeld ⊢
   refine take_ (i := 0) (N := some 11) (v := ?_) (a' := ?_) #[true, false, false, false, false, false] rfl rfl (by kernel_rfl) (fun _ _ _ h => h) (Or.inl ⟨by rfl, ?_⟩) hHeld ?_ ?_
   rotate_left
   ·rintro w' ⟨s0, s1, s2, s3⟩
    go_simp
    with_reducible rfl
   rotate_left
   ·simp only [Act.put, List.setIfInBounds_toArray, List.set_cons_zero, List.set_cons_succ, i64_w, i32_w]
    rfl
   refine take_ (i := 2) (N := some 13) (v := ?_) (a' := ?_) #[true, false, true, false, false, false] rfl rfl (by kernel_rfl) (fun _ _ _ h => h) (Or.inl ⟨by rfl, ?_⟩) hHeld ?_ ?_
   rotate_left
   ·rintro w' ⟨s0, s1, s2, s3⟩
    go_simp
    with_reducible rfl
   rotate_left
   ·simp only [Act.put, List.setIfInBounds_toArray, List.set_cons_zero, List.set_cons_succ, i64_w, i32_w]
    rfl
   refine one_ (i := 1) (N := some 12) #[true, true, true, false, false, false] rfl rfl (by kernel_rfl) (by decide) (fun K hK => ?_)
   refine goes_ Try.func42 (by kernel_rfl) rfl #[.agg #[.int .i64 a2_0, .slice A2_1 l2_1.length c2_1]] (by rfl) rfl rfl (by (try simp only [List.map_toArray, List.map_cons, List.map_nil]); first | done | rfl | (simp only [List.length_drop, List.length_take]; rfl)) ?_
   with_reducible refine (order_first.calls a2_0 _ _ l2_1 t276 _ ?side1 ?side2 A12.out).mono ?_
   (case side1 => repeat (first | exact (Kd.C_below HR2_1.out HB.out) | (with_reducible refine Kd.C_alloc ?_ _) | (with_reducible refine Kd.C_drewN ?_ _) | (with_reducible refine Kd.C_drew ?_)))
   (case side2 => exact HC2_1.out)
   rintro e w16 ⟨rfl, hb⟩
   refine ⟨_, rfl, ?_⟩
   have n0_ := Aside0.mk (blk_below (g := gb273) (o := .cells #[.slice A0_0 l0_0.length c0_0, .int .u8 a0_1] 53 (0, 0)) (by (with_reducible repeat (first | refine blk_drewN ?_ _ | refine blk_drew ?_ | refine blk_alloc ?_ _)); exact BK273.out) hb)
   have n1_ := Aside0.mk (blk_below (g := gb274) (o := .cells #[.int .i64 a1_0, .slice A1_1 l1_1.length c1_1] 32 (0, 0)) (by (with_reducible repeat (first | refine blk_drewN ?_ _ | refine blk_drew ?_ | refine blk_alloc ?_ _)); exact BK274.out) hb)
   have n2_ := Aside0.mk (blk_below (g := gb275) (o := .cells #[.int .i64 a2_0, .slice A2_1 l2_1.length c2_1] 32 (0, 0)) (by (with_reducible repeat (first | refine blk_drewN ?_ _ | refine blk_drew ?_ | refine blk_alloc ?_ _)); exact BK275.out) hb)
   have n3_ := Aside0.mk (below_step (by repeat (first | (with_reducible first | exact HB.out | apply below_alloc | apply pw_below_drewN | apply below_drew1 | refine below_set ?_ GE273.out | refine below_set ?_ GE274.out | refine below_set ?_ GE275.out) | exact HB.out)) hb)
   clear BK273
   clear BK274
   clear BK275
   clear HB
   have BK273 := n0_
   have BK274 := n1_
   have BK275 := n2_
   have HB := n3_
   clear n0_ n1_ n2_ n3_
   (try clear hb)
   (try clear hb2)
   (try clear hk)
   (try clear hi)
   refine hK.out _ _ ⟨(blk_cell BK275.out 0).trans rfl, (blk_cell BK275.out 1).trans rfl, (blk_cell BK274.out 0).trans rfl, (blk_cell BK274.out 1).trans rfl⟩ (fun hHeld => ?_)
   clear hK K
   refine norm_ (a' := ?_) ?_ ?_
   rotate_left
   ·show Act.put _ (some 12) _ = _
    simp only [Act.put, List.setIfInBounds_toArray, List.set_cons_zero, List.set_cons_succ, i64_w, i32_w]
    rfl
   refine one_ (i := 3) (N := some 14) #[true, true, true, true, false, false] rfl rfl (by kernel_rfl) (by decide) (fun K hK => ?_)
   refine goes_ Try.func42 (by kernel_rfl) rfl #[.agg #[.int .i64 a1_0, .slice A1_1 l1_1.length c1_1]] (by rfl) rfl rfl (by (try simp only [List.map_toArray, List.map_cons, List.map_nil]); first | done | rfl | (simp only [List.length_drop, List.length_take]; rfl)) ?_
   with_reducible refine (order_first.calls a1_0 _ _ l1_1 t277 _ ?side1 ?side2 A13.out).mono ?_
   (case side1 => repeat (first | exact (Kd.C_below HR1_1.out HB.out) | (with_reducible refine Kd.C_alloc ?_ _) | (with_reducible refine Kd.C_drewN ?_ _) | (with_reducible refine Kd.C_drew ?_)))
   (case side2 => exact HC1_1.out)
   rintro e w17 ⟨rfl, hb⟩
   refine ⟨_, rfl, ?_⟩
   have n0_ := Aside0.mk (blk_below (g := gb273) (o := .cells #[.slice A0_0 l0_0.length c0_0, .int .u8 a0_1] 53 (0, 0)) (by (with_reducible repeat (first | refine blk_drewN ?_ _ | refine blk_drew ?_ | refine blk_alloc ?_ _)); exact BK273.out) hb)
   have n1_ := Aside0.mk (blk_below (g := gb274) (o := .cells #[.int .i64 a1_0, .slice A1_1 l1_1.length c1_1] 32 (0, 0)) (by (with_reducible repeat (first | refine blk_drewN ?_ _ | refine blk_drew ?_ | refine blk_alloc ?_ _)); exact BK274.out) hb)
   have n2_ := Aside0.mk (blk_below (g := gb275) (o := .cells #[.int .i64 a2_0, .slice A2_1 l2_1.length c2_1] 32 (0, 0)) (by (with_reducible repeat (first | refine blk_drewN ?_ _ | refine blk_drew ?_ | refine blk_alloc ?_ _)); exact BK275.out) hb)
   have n3_ := Aside0.mk (below_step (by repeat (first | (with_reducible first | exact HB.out | apply below_alloc | apply pw_below_drewN | apply below_drew1 | refine below_set ?_ GE273.out | refine below_set ?_ GE274.out | refine below_set ?_ GE275.out) | exact HB.out)) hb)
   clear BK273
   clear BK274
   clear BK275
   clear HB
   have BK273 := n0_
   have BK274 := n1_
   have BK275 := n2_
   have HB := n3_
   clear n0_ n1_ n2_ n3_
   (try clear hb)
   (try clear hb2)
   (try clear hk)
   (try clear hi)
   refine hK.out _ _ ⟨(blk_cell BK275.out 0).trans rfl, (blk_cell BK275.out 1).trans rfl, (blk_cell BK274.out 0).trans rfl, (blk_cell BK274.out 1).trans rfl⟩ (fun hHeld => ?_)
   clear hK K
   refine norm_ (a' := ?_) ?_ ?_
   rotate_left
   ·show Act.put _ (some 14) _ = _
    simp only [Act.put, List.setIfInBounds_toArray, List.set_cons_zero, List.set_cons_succ, i64_w, i32_w]
    rfl
   refine one_ (i := 4) (N := some 15) #[true, true, true, true, true, false] rfl rfl (by kernel_rfl) (by decide) (fun K hK => ?_)
   refine goes_ Try.func41 (by kernel_rfl) rfl #[.int .i64 t276, .int .i64 t277] (by rfl) rfl rfl (by (try simp only [List.map_toArray, List.map_cons, List.map_nil]); first | done | rfl | (simp only [List.length_drop, List.length_take]; rfl)) ?_
   with_reducible refine (cmp_Compare_int.calls t276 t277 t278 _ A14.out).mono ?_
   rintro e w' ⟨rfl, ⟨nd, rfl⟩⟩
   refine ⟨_, rfl, ?_⟩
   refine hK.out _ _ ⟨(blk_cell BK275.out 0).trans rfl, (blk_cell BK275.out 1).trans rfl, (blk_cell BK274.out 0).trans rfl, (blk_cell BK274.out 1).trans rfl⟩ (fun hHeld => ?_)
   clear hK K
   refine norm_ (a' := ?_) ?_ ?_
   rotate_left
   ·show Act.put _ (some 15) _ = _
    simp only [Act.put, List.setIfInBounds_toArray, List.set_cons_zero, List.set_cons_succ, i64_w, i32_w]
    rfl
   refine pure_ (i := 5) (N := some 7) (v := ?_) (a' := ?_) #[true, true, true, true, true, true] rfl rfl (by kernel_rfl) (fun _ _ _ h => h) (Or.inl ⟨by rfl, ?_⟩) ?_ ?_
   rotate_left
   ·intro w'
    go_simp
    with_reducible rfl
   rotate_left
   ·simp only [Act.put, List.setIfInBounds_toArray, List.set_cons_zero, List.set_cons_succ, i64_w, i32_w]
    rfl
   refine done_ (by kernel_rfl) ?_
   try go_wp2
   go_meet
   case rel => exact ⟨_, (t278), (by first | rfl | (simp; done) | (simp [*]; done)), H', ⟨by first | omega | exact Nat.le_refl _⟩, ⟨by (with_reducible repeat (first | refine blk_drewN ?_ _ | refine blk_drew ?_ | refine blk_alloc ?_ _)); exact BK273.out⟩, ⟨by (with_reducible repeat (first | refine blk_drewN ?_ _ | refine blk_drew ?_ | refine blk_alloc ?_ _)); exact BK274.out⟩, ⟨by (with_reducible repeat (first | refine blk_drewN ?_ _ | refine blk_drew ?_ | refine blk_alloc ?_ _)); exact BK275.out⟩, ⟨by repeat (first | (with_reducible first | exact HB.out | apply below_alloc | apply pw_below_drewN | apply below_drew1 | refine below_set ?_ GE273.out | refine below_set ?_ GE274.out | refine below_set ?_ GE275.out) | exact HB.out)⟩⟩
  ·rw [if_neg c11] at H
   have c11b0 : (a0_1 == 1) = false := beq_eq_false_iff_ne.mpr c11
   have c11b1 : (a0_1 != 1) = true := bne_iff_ne.mpr c11
   (first | rw [c11b0] | (simp only [i64_w, i32_w]; rw [c11b0]) | skip)
   have H' := Aside0.mk H
   clear H
   go_wp2
   go_meet
   case rel => exact ⟨_, (0), (by first | rfl | (simp; done) | (simp [*]; done)), H', ⟨by first | omega | exact Nat.le_refl _⟩, ⟨by (with_reducible repeat (first | refine blk_drewN ?_ _ | refine blk_drew ?_ | refine blk_alloc ?_ _)); exact BK273.out⟩, ⟨by (with_reducible repeat (first | refine blk_drewN ?_ _ | refine blk_drew ?_ | refine blk_alloc ?_ _)); exact BK274.out⟩, ⟨by (with_reducible repeat (first | refine blk_drewN ?_ _ | refine blk_drew ?_ | refine blk_alloc ?_ _)); exact BK275.out⟩, ⟨by repeat (first | (with_reducible first | exact HB.out | apply below_alloc | apply pw_below_drewN | apply below_drew1 | refine below_set ?_ GE273.out | refine below_set ?_ GE274.out | refine below_set ?_ GE275.out) | exact HB.out)⟩⟩
 case rest =>
  clear HC4
  try clear c1
  try clear c2
  try clear p2
  try clear c4
  try clear c8
  try clear c9
  try clear c11
  try clear c11b0
  try clear c11b1
  try clear hcz10_0
  try clear hcz10_1
  try clear hfz10_0
  try clear hfz10_1
  obtain ⟨kq, x7_3, rfl, HA, HJ3, BK273, BK274, BK275, HB⟩ := hcut
  cases kq with
  | zero => exact absurd HA.out (by simp [order_orderer_compare.j0])
  | succ kj3 =>
   have H := HA.out
   clear HA
   simp only [order_orderer_compare.j0] at H
   replace H := Option.bind_eq_some_iff.mp H
   obtain ⟨t279, A180, H⟩ := H
   replace H : ((order_Recency.f l1_1).bind fun t282 => ((slices_Compare_int_int.f kj3 t279 t282).bind fun t285 => ((order_orderer_strength.f kj3 l0_0 a0_1 a2_0).bind fun t286 => ((order_orderer_strength.f kj3 l0_0 a0_1 a1_0).bind fun t287 => ((cmp_Compare_int.f t286 t287).bind fun t288 => ((cmp_Compare_int.f a1_0 a2_0).bind fun t289 => ((slices_Compare_int_int.f kj3 l1_1 l2_1).bind fun t290 => ((cmp_Or_int.f kj3 (([x7_3, t285, t288, t289, t290] : List Int))).bind fun t294 => (some t294))))))))) = some r := H
   have A18 := Aside0.mk A180
   clear A180
   replace H := Option.bind_eq_some_iff.mp H
   obtain ⟨t282, A190, H⟩ := H
   replace H : ((slices_Compare_int_int.f kj3 t279 t282).bind fun t285 => ((order_orderer_strength.f kj3 l0_0 a0_1 a2_0).bind fun t286 => ((order_orderer_strength.f kj3 l0_0 a0_1 a1_0).bind fun t287 => ((cmp_Compare_int.f t286 t287).bind fun t288 => ((cmp_Compare_int.f a1_0 a2_0).bind fun t289 => ((slices_Compare_int_int.f kj3 l1_1 l2_1).bind fun t290 => ((cmp_Or_int.f kj3 (([x7_3, t285, t288, t289, t290] : List Int))).bind fun t294 => (some t294)))))))) = some r := H
   have A19 := Aside0.mk A190
   clear A190
   replace H := Option.bind_eq_some_iff.mp H
   obtain ⟨t285, A200, H⟩ := H
   replace H : ((order_orderer_strength.f kj3 l0_0 a0_1 a2_0).bind fun t286 => ((order_orderer_strength.f kj3 l0_0 a0_1 a1_0).bind fun t287 => ((cmp_Compare_int.f t286 t287).bind fun t288 => ((cmp_Compare_int.f a1_0 a2_0).bind fun t289 => ((slices_Compare_int_int.f kj3 l1_1 l2_1).bind fun t290 => ((cmp_Or_int.f kj3 (([x7_3, t285, t288, t289, t290] : List Int))).bind fun t294 => (some t294))))))) = some r := H
   have A20 := Aside0.mk A200
   clear A200
   replace H := Option.bind_eq_some_iff.mp H
   obtain ⟨t286, A210, H⟩ := H
   replace H : ((order_orderer_strength.f kj3 l0_0 a0_1 a1_0).bind fun t287 => ((cmp_Compare_int.f t286 t287).bind fun t288 => ((cmp_Compare_int.f a1_0 a2_0).bind fun t289 => ((slices_Compare_int_int.f kj3 l1_1 l2_1).bind fun t290 => ((cmp_Or_int.f kj3 (([x7_3, t285, t288, t289, t290] : List Int))).bind fun t294 => (some t294)))))) = some r := H
   have A21 := Aside0.mk A210
   clear A210
   replace H := Option.bind_eq_some_iff.mp H
   obtain ⟨t287, A220, H⟩ := H
   replace H : ((cmp_Compare_int.f t286 t287).bind fun t288 => ((cmp_Compare_int.f a1_0 a2_0).bind fun t289 => ((slices_Compare_int_int.f kj3 l1_1 l2_1).bind fun t290 => ((cmp_Or_int.f kj3 (([x7_3, t285, t288, t289, t290] : List Int))).bind fun t294 => (some t294))))) = some r := H
   have A22 := Aside0.mk A220
   clear A220
   replace H := Option.bind_eq_some_iff.mp H
   obtain ⟨t288, A230, H⟩ := H
   replace H : ((cmp_Compare_int.f a1_0 a2_0).bind fun t289 => ((slices_Compare_int_int.f kj3 l1_1 l2_1).bind fun t290 => ((cmp_Or_int.f kj3 (([x7_3, t285, t288, t289, t290] : List Int))).bind fun t294 => (some t294)))) = some r := H
   have A23 := Aside0.mk A230
   clear A230
   replace H := Option.bind_eq_some_iff.mp H
   obtain ⟨t289, A240, H⟩ := H
   replace H : ((slices_Compare_int_int.f kj3 l1_1 l2_1).bind fun t290 => ((cmp_Or_int.f kj3 (([x7_3, t285, t288, t289, t290] : List Int))).bind fun t294 => (some t294))) = some r := H
   have A24 := Aside0.mk A240
   clear A240
   replace H := Option.bind_eq_some_iff.mp H
   obtain ⟨t290, A250, H⟩ := H
   replace H : ((cmp_Or_int.f kj3 (([x7_3, t285, t288, t289, t290] : List Int))).bind fun t294 => (some t294)) = some r := H
   have A25 := Aside0.mk A250
   clear A250
   obtain ⟨y291, hy291⟩ : ∃ y_ : List Int, y_ = (([x7_3, t285, t288, t289, t290] : List Int)) := ⟨_, rfl⟩
   replace H : ((cmp_Or_int.f kj3 y291).bind fun t294 => (some t294)) = some r := by first | (rw [hy291]; with_reducible exact H) | (have H2_ := (Option.bind_some _ _).symm.trans H; rw [hy291]; with_reducible exact H2_) | (have H2_ := (Option.bind_some _ _).symm.trans H; with_reducible exact H2_) | with_reducible exact H | (rw [hy291]; exact H) | exact H
   have Ny291 := Aside0.mk hy291
   clear hy291
   replace H := Option.bind_eq_some_iff.mp H
   obtain ⟨t294, A260, H⟩ := H
   replace H : (some t294) = some r := H
   have A26 := Aside0.mk A260
   clear A260
   obtain rfl := Option.some.inj H
   try go_wp2
   have n0_ := Aside0.mk (blk_drew BK273.out)
   have n1_ := Aside0.mk (blk_drew BK274.out)
   have n2_ := Aside0.mk (blk_drew BK275.out)
   have n3_ := Aside0.mk (below_drew1 HB.out)
   clear BK273
   clear BK274
   clear BK275
   clear HB
   have BK273 := n0_
   have BK274 := n1_
   have BK275 := n2_
   have HB := n3_
   clear n0_ n1_ n2_ n3_
   refine start_ (n := 30) (S := fun w' => w'.cell? ⟨gb275, 0, none⟩ = some (.int .i64 a2_0) ∧ w'.cell? ⟨gb275, 1, none⟩ = some (.slice A2_1 l2_1.length c2_1) ∧ w'.cell? ⟨gb274, 0, none⟩ = some (.int .i64 a1_0) ∧ w'.cell? ⟨gb274, 1, none⟩ = some (.slice A1_1 l1_1.length c1_1) ∧ w'.cell? ⟨gb273, 0, none⟩ = some (.slice A0_0 l0_0.length c0_0) ∧ w'.cell? ⟨gb273, 1, none⟩ = some (.int .u8 a0_1)) (ds := []) #[false, false, false, false, false, false, false, false, false, false, false, false, false, false, false, false, false, false, false, false, false, false, false, false, false, false, false, false, false, false] (by kernel_rfl) rfl rfl ⟨(blk_cell BK275.out 0).trans rfl, (blk_cell BK275.out 1).trans rfl, (blk_cell BK274.out 0).trans rfl, (blk_cell BK274.out 1).trans rfl, (blk_cell BK273.out 0).trans rfl, (blk_cell BK273.out 1).trans rfl⟩ (fun hHeld => ?_); refine with_tabW order_orderer_compare.tab4 order_orderer_compare.bits4 (fun HT_ HW_ => ?_)
   generalize wc.drew = w27 at BK273 BK274 BK275 HB hHeld ⊢
   refine pure_ (i := 0) (N := some 16) (v := ?_) (a' := ?_) #[true, false, false, false, false, false, false, false, false, false, false, false, false, false, false, false, false, false, false, false, false, false, false, false, false, false, false, false, false, false] rfl rfl (any_of HT_.out (by kernel_rfl)) (fun _ _ _ h => h) (Or.inl ⟨by rfl, ?_⟩) ?_ ?_
   rotate_left
   ·intro w'
    go_simp
    with_reducible rfl
   rotate_left
   ·simp only [Act.put, List.setIfInBounds_toArray, List.set_cons_zero, List.set_cons_succ, i64_w, i32_w]
    rfl
   refine pure_ (i := 1) (N := some 17) (v := ?_) (a' := ?_) #[true, true, false, false, false, false, false, false, false, false, false, false, false, false, false, false, false, false, false, false, false, false, false, false, false, false, false, false, false, false] rfl rfl (any_of HT_.out (by kernel_rfl)) (fun _ _ _ h => h) (Or.inl ⟨by rfl, ?_⟩) ?_ ?_
   rotate_left
   ·intro w'
    go_simp
    with_reducible rfl
   rotate_left
   ·simp only [Act.put, List.setIfInBounds_toArray, List.set_cons_zero, List.set_cons_succ, i64_w, i32_w]
    rfl
   refine pure_ (i := 4) (N := some 20) (v := ?_) (a' := ?_) #[true, true, false, false, true, false, false, false, false, false, false, false, false, false, false, false, false, false, false, false, false, false, false, false, false, false, false, false, false, false] rfl rfl (any_of HT_.out (by kernel_rfl)) (fun _ _ _ h => h) (Or.inl ⟨by rfl, ?_⟩) ?_ ?_
   rotate_left
   ·intro w'
    go_simp
    with_reducible rfl
   rotate_left
   ·simp only [Act.put, List.setIfInBounds_toArray, List.set_cons_zero, List.set_cons_succ, i64_w, i32_w]
    rfl
   refine pure_ (i := 9) (N := some 25) (v := ?_) (a' := ?_) #[true, true, false, false, true, false, false, false, false, true, false, false, false, false, false, false, false, false, false, false, false, false, false, false, false, false, false, false, false, false] rfl rfl (any_of HT_.out (by kernel_rfl)) (fun _ _ _ h => h) (Or.inl ⟨by rfl, ?_⟩) ?_ ?_
   rotate_left
   ·intro w'
    go_simp
    with_reducible rfl
   rotate_left
   ·simp only [Act.put, List.setIfInBounds_toArray, List.set_cons_zero, List.set_cons_succ, i64_w, i32_w]
    rfl
   refine pure_ (i := 13) (N := some 29) (v := ?_) (a' := ?_) #[true, true, false, false, true, false, false, false, false, true, false, false, false, true, false, false, false, false, false, false, false, false, false, false, false, false, false, false, false, false] rfl rfl (any_of HT_.out (by kernel_rfl)) (fun _ _ _ h => h) (Or.inl ⟨by rfl, ?_⟩) ?_ ?_
   rotate_left
   ·intro w'
    go_simp
    with_reducible rfl
   rotate_left
   ·simp only [Act.put, List.setIfInBounds_toArray, List.set_cons_zero, List.set_cons_succ, i64_w, i32_w]
    rfl
   refine pure_ (i := 17) (N := some 33) (v := ?_) (a' := ?_) #[true, true, false, false, true, false, false, false, false, true, false, false, false, true, false, false, false, true, false, false, false, false, false, false, false, false, false, false, false, false] rfl rfl (any_of HT_.out (by kernel_rfl)) (fun _ _ _ h => h) (Or.inl ⟨by rfl, ?_⟩) ?_ ?_
   rotate_left
   ·intro w'
    go_simp
    with_reducible rfl
   rotate_left
   ·simp only [Act.put, List.setIfInBounds_toArray, List.set_cons_zero, List.set_cons_succ, i64_w, i32_w]
    rfl
   refine pure_ (i := 19) (N := some 35) (v := ?_) (a' := ?_) #[true, true, false, false, true, false, false, false, false, true, false, false, false, true, false, false, false, true, false, true, false, false, false, false, false, false, false, false, false, false] rfl rfl (any_of HT_.out (by kernel_rfl)) (fun _ _ _ h => h) (Or.inl ⟨by rfl, ?_⟩) ?_ ?_
   rotate_left
   ·intro w'
    go_simp
    with_reducible rfl
   rotate_left
   ·simp only [Act.put, List.setIfInBounds_toArray, List.set_cons_zero, List.set_cons_succ, i64_w, i32_w]
    rfl
   refine pure_ (i := 22) (N := some 38) (v := ?_) (a' := ?_) #[true, true, false, false, true, false, false, false, false, true, false, false, false, true, false, false, false, true, false, true, false, false, true, false, false, false, false, false, false, false] rfl rfl (any_of HT_.out (by kernel_rfl)) (fun _ _ _ h => h) (Or.inl ⟨by rfl, ?_⟩) ?_ ?_
   rotate_left
   ·intro w'
    go_simp
    with_reducible rfl
   rotate_left
   ·simp only [Act.put, List.setIfInBounds_toArray, List.set_cons_zero, List.set_cons_succ, i64_w, i32_w]
    rfl
   refine pure_ (i := 24) (N := some 40) (v := ?_) (a' := ?_) #[true, true, false, false, true, false, false, false, false, true, false, false, false, true, false, false, false, true, false, true, false, false, true, false, true, false, false, false, false, false] rfl rfl (any_of HT_.out (by kernel_rfl)) (fun _ _ _ h => h) (Or.inl ⟨by rfl, ?_⟩) ?_ ?_
   rotate_left
   ·intro w'
    go_simp
    with_reducible rfl
   rotate_left
   ·simp only [Act.put, List.setIfInBounds_toArray, List.set_cons_zero, List.set_cons_succ, i64_w, i32_w]
    rfl
   refine take_ (i := 2) (N := some 18) (v := ?_) (a' := ?_) #[true, true, true, false, true, false, false, false, false, true, false, false, false, true, false, false, false, true, false, true, false, false, true, false, true, false, false, false, false, false] rfl rfl (take_ofW HT_.out HW_.out (by kernel_rfl)) (fun _ _ _ h => h) (Or.inl ⟨by rfl, ?_⟩) hHeld ?_ ?_
   rotate_left
   ·rintro w' ⟨s0, s1, s2, s3, s4, s5⟩
    go_simp
    with_reducible rfl
   rotate_left
   ·simp only [Act.put, List.setIfInBounds_toArray, List.set_cons_zero, List.set_cons_succ, i64_w, i32_w]
    rfl
   refine take_ (i := 5) (N := some 21) (v := ?_) (a' := ?_) #[true, true, true, false, true, true, false, false, false, true, false, false, false, true, false, false, false, true, false, true, false, false, true, false, true, false, false, false, false, false] rfl rfl (take_ofW HT_.out HW_.out (by kernel_rfl)) (fun _ _ _ h => h) (Or.inl ⟨by rfl, ?_⟩) hHeld ?_ ?_
   rotate_left
   ·rintro w' ⟨s0, s1, s2, s3, s4, s5⟩
    go_simp
    with_reducible rfl
   rotate_left
   ·simp only [Act.put, List.setIfInBounds_toArray, List.set_cons_zero, List.set_cons_succ, i64_w, i32_w]
    rfl
   refine take_ (i := 8) (N := some 24) (v := ?_) (a' := ?_) #[true, true, true, false, true, true, false, false, true, true, false, false, false, true, false, false, false, true, false, true, false, false, true, false, true, false, false, false, false, false] rfl rfl (take_ofW HT_.out HW_.out (by kernel_rfl)) (fun _ _ _ h => h) (Or.inl ⟨by rfl, ?_⟩) hHeld ?_ ?_
   rotate_left
   ·rintro w' ⟨s0, s1, s2, s3, s4, s5⟩
    go_simp
    with_reducible rfl
   rotate_left
   ·simp only [Act.put, List.setIfInBounds_toArray, List.set_cons_zero, List.set_cons_succ, i64_w, i32_w]
    rfl
   refine take_ (i := 10) (N := some 26) (v := ?_) (a' := ?_) #[true, true, true, false, true, true, false, false, true, true, true, false, false, true, false, false, false, true, false, true, false, false, true, false, true, false, false, false, false, false] rfl rfl (take_ofW HT_.out HW_.out (by kernel_rfl)) (fun _ _ _ h => h) (Or.inl ⟨by rfl, ?_⟩) hHeld ?_ ?_
   rotate_left
   ·rintro w' ⟨s0, s1, s2, s3, s4, s5⟩
    go_simp
    with_reducible rfl
   rotate_left
   ·simp only [Act.put, List.setIfInBounds_toArray, List.set_cons_zero, List.set_cons_succ, i64_w, i32_w]
    rfl
   refine take_ (i := 12) (N := some 28) (v := ?_) (a' := ?_) #[true, true, true, false, true, true, false, false, true, true, true, false, true, true, false, false, false, true, false, true, false, false, true, false, true, false, false, false, false, false] rfl rfl (take_ofW HT_.out HW_.out (by kernel_rfl)) (fun _ _ _ h => h) (Or.inl ⟨by rfl, ?_⟩) hHeld ?_ ?_
   rotate_left
   ·rintro w' ⟨s0, s1, s2, s3, s4, s5⟩
    go_simp
    with_reducible rfl
   rotate_left
   ·simp only [Act.put, List.setIfInBounds_toArray, List.set_cons_zero, List.set_cons_succ, i64_w, i32_w]
    rfl
   refine take_ (i := 14) (N := some 30) (v := ?_) (a' := ?_) #[true, true, true, false, true, true, false, false, true, true, true, false, true, true, true, false, false, true, false, true, false, false, true, false, true, false, false, false, false, false] rfl rfl (take_ofW HT_.out HW_.out (by kernel_rfl)) (fun _ _ _ h => h) (Or.inl ⟨by rfl, ?_⟩) hHeld ?_ ?_
   rotate_left
   ·rintro w' ⟨s0, s1, s2, s3, s4, s5⟩
    go_simp
    with_reducible rfl
   rotate_left
   ·simp only [Act.put, List.setIfInBounds_toArray, List.set_cons_zero, List.set_cons_succ, i64_w, i32_w]
    rfl
   refine take_ (i := 18) (N := some 34) (v := ?_) (a' := ?_) #[true, true, true, false, true, true, false, false, true, true, true, false, true, true, true, false, false, true, true, true, false, false, true, false, true, false, false, false, false, false] rfl rfl (take_ofW HT_.out HW_.out (by kernel_rfl)) (fun _ _ _ h => h) (Or.inl ⟨by rfl, ?_⟩) hHeld ?_ ?_
   rotate_left
   ·rintro w' ⟨s0, s1, s2, s3, s4, s5⟩
    go_simp
    with_reducible rfl
   rotate_left
   ·simp only [Act.put, List.setIfInBounds_toArray, List.set_cons_zero, List.set_cons_succ, i64_w, i32_w]
    rfl
   refine take_ (i := 20) (N := some 36) (v := ?_) (a' := ?_) #[true, true, true, false, true, true, false, false, true, true, true, false, true, true, true, false, false, true, true, true, true, false, true, false, true, false, false, false, false, false] rfl rfl (take_ofW HT_.out HW_.out (by kernel_rfl)) (fun _ _ _ h => h) (Or.inl ⟨by rfl, ?_⟩) hHeld ?_ ?_
   rotate_left
   ·rintro w' ⟨s0, s1, s2, s3, s4, s5⟩
    go_simp
    with_reducible rfl
   rotate_left
   ·simp only [Act.put, List.setIfInBounds_toArray, List.set_cons_zero, List.set_cons_succ, i64_w, i32_w]
    rfl
   refine take_ (i := 23) (N := some 39) (v := ?_) (a' := ?_) #[true, true, true, false, true, true, false, false, true, true, true, false, true, true, true, false, false, true, true, true, true, false, true, true, true, false, false, false, false, false] rfl rfl (take_ofW HT_.out HW_.out (by kernel_rfl)) (fun _ _ _ h => h) (Or.inl ⟨by rfl, ?_⟩) hHeld ?_ ?_
   rotate_left
   ·rintro w' ⟨s0, s1, s2, s3, s4, s5⟩
    go_simp
    with_reducible rfl
   rotate_left
   ·simp only [Act.put, List.setIfInBounds_toArray, List.set_cons_zero, List.set_cons_succ, i64_w, i32_w]
    rfl
   refine take_ (i := 25) (N := some 41) (v := ?_) (a' := ?_) #[true, true, true, false, true, true, false, false, true, true, true, false, true, true, true, false, false, true, true, true, true, false, true, true, true, true, false, false, false, false] rfl rfl (take_ofW HT_.out HW_.out (by kernel_rfl)) (fun _ _ _ h => h) (Or.inl ⟨by rfl, ?_⟩) hHeld ?_ ?_
   rotate_left
   ·rintro w' ⟨s0, s1, s2, s3, s4, s5⟩
    go_simp
    with_reducible rfl
   rotate_left
   ·simp only [Act.put, List.setIfInBounds_toArray, List.set_cons_zero, List.set_cons_succ, i64_w, i32_w]
    rfl
   refine one_ (i := 3) (N := some 19) #[true, true, true, true, true, true, false, false, true, true, true, false, true, true, true, false, false, true, true, true, true, false, true, true, true, true, false, false, false, false] rfl rfl (one_of HT_.out (by kernel_rfl)) (by decide) (fun K hK => ?_)
   refine goes_ Try.func15 (by kernel_rfl) rfl #[.slice A2_1 l2_1.length c2_1] (by rfl) rfl rfl (by (try simp only [List.map_toArray, List.map_cons, List.map_nil]); first | done | rfl | (simp only [List.length_drop, List.length_take]; rfl)) ?_
   with_reducible refine (order_Recency.calls _ _ l2_1 t279 _ ?side1 ?side2 A18.out).mono ?_
   (case side1 => repeat (first | exact (Kd.C_below HR2_1.out HB.out) | (with_reducible refine Kd.C_alloc ?_ _) | (with_reducible refine Kd.C_drewN ?_ _) | (with_reducible refine Kd.C_drew ?_)))
   (case side2 => exact HC2_1.out)
   rintro e w28 ⟨v280, rfl, ho0, hb⟩
   refine ⟨_, rfl, ?_⟩
   have n0_ := Aside0.mk (Kd.R_lower ho0 (below_size (by repeat (first | (with_reducible first | exact HB.out | apply below_alloc | apply pw_below_drewN | apply below_drew1 | refine below_set ?_ GE273.out | refine below_set ?_ GE274.out | refine below_set ?_ GE275.out) | exact HB.out))))
   have n1_ := Aside0.mk (blk_below (g := gb273) (o := .cells #[.slice A0_0 l0_0.length c0_0, .int .u8 a0_1] 53 (0, 0)) (by (with_reducible repeat (first | refine blk_drewN ?_ _ | refine blk_drew ?_ | refine blk_alloc ?_ _)); exact BK273.out) hb)
   have n2_ := Aside0.mk (blk_below (g := gb274) (o := .cells #[.int .i64 a1_0, .slice A1_1 l1_1.length c1_1] 32 (0, 0)) (by (with_reducible repeat (first | refine blk_drewN ?_ _ | refine blk_drew ?_ | refine blk_alloc ?_ _)); exact BK274.out) hb)
   have n3_ := Aside0.mk (blk_below (g := gb275) (o := .cells #[.int .i64 a2_0, .slice A2_1 l2_1.length c2_1] 32 (0, 0)) (by (with_reducible repeat (first | refine blk_drewN ?_ _ | refine blk_drew ?_ | refine blk_alloc ?_ _)); exact BK275.out) hb)
   have n4_ := Aside0.mk (below_step (by repeat (first | (with_reducible first | exact HB.out | apply below_alloc | apply pw_below_drewN | apply below_drew1 | refine below_set ?_ GE273.out | refine below_set ?_ GE274.out | refine below_set ?_ GE275.out) | exact HB.out)) hb)
   clear BK273
   clear BK274
   clear BK275
   clear HB
   have HO281 := n0_
   have BK273 := n1_
   have BK274 := n2_
   have BK275 := n3_
   have HB := n4_
   clear n0_ n1_ n2_ n3_ n4_
   (try clear hb)
   (try clear hb2)
   (try clear hk)
   (try clear hi)
   (try clear ho0)
   refine hK.out _ _ ⟨(blk_cell BK275.out 0).trans rfl, (blk_cell BK275.out 1).trans rfl, (blk_cell BK274.out 0).trans rfl, (blk_cell BK274.out 1).trans rfl, (blk_cell BK273.out 0).trans rfl, (blk_cell BK273.out 1).trans rfl⟩ (fun hHeld => ?_)
   clear hK K
   refine norm_ (a' := ?_) ?_ ?_
   rotate_left
   ·show Act.put _ (some 19) _ = _
    simp only [Act.put, List.setIfInBounds_toArray, List.set_cons_zero, List.set_cons_succ, i64_w, i32_w]
    rfl
   refine one_ (i := 6) (N := some 22) #[true, true, true, true, true, true, true, false, true, true, true, false, true, true, true, false, false, true, true, true, true, false, true, true, true, true, false, false, false, false] rfl rfl (one_of HT_.out (by kernel_rfl)) (by decide) (fun K hK => ?_)
   refine goes_ Try.func15 (by kernel_rfl) rfl #[.slice A1_1 l1_1.length c1_1] (by rfl) rfl rfl (by (try simp only [List.map_toArray, List.map_cons, List.map_nil]); first | done | rfl | (simp only [List.length_drop, List.length_take]; rfl)) ?_
   with_reducible refine (order_Recency.calls _ _ l1_1 t282 _ ?side1 ?side2 A19.out).mono ?_
   (case side1 => repeat (first | exact (Kd.C_below HR1_1.out HB.out) | (with_reducible refine Kd.C_alloc ?_ _) | (with_reducible refine Kd.C_drewN ?_ _) | (with_reducible refine Kd.C_drew ?_)))
   (case side2 => exact HC1_1.out)
   rintro e w29 ⟨v283, rfl, ho0, hb⟩
   refine ⟨_, rfl, ?_⟩
   have n0_ := Aside0.mk (Kd.R_elder' (by (with_reducible repeat (first | apply Kd.R_alloc | apply Kd.R_drewN | apply Kd.R_drew)); exact HO281.out) (Kd.R_base ho0) hb)
   have n1_ := Aside0.mk (Kd.R_lower (Kd.R_new' ho0 (Kd.R_lt (by (with_reducible repeat (first | apply Kd.R_alloc | apply Kd.R_drewN | apply Kd.R_drew)); exact HO281.out))) (below_size (by repeat (first | (with_reducible first | exact HB.out | apply below_alloc | apply pw_below_drewN | apply below_drew1 | refine below_set ?_ GE273.out | refine below_set ?_ GE274.out | refine below_set ?_ GE275.out) | exact HB.out))))
   have n2_ := Aside0.mk (blk_below (g := gb273) (o := .cells #[.slice A0_0 l0_0.length c0_0, .int .u8 a0_1] 53 (0, 0)) (by (with_reducible repeat (first | refine blk_drewN ?_ _ | refine blk_drew ?_ | refine blk_alloc ?_ _)); exact BK273.out) hb)
   have n3_ := Aside0.mk (blk_below (g := gb274) (o := .cells #[.int .i64 a1_0, .slice A1_1 l1_1.length c1_1] 32 (0, 0)) (by (with_reducible repeat (first | refine blk_drewN ?_ _ | refine blk_drew ?_ | refine blk_alloc ?_ _)); exact BK274.out) hb)
   have n4_ := Aside0.mk (blk_below (g := gb275) (o := .cells #[.int .i64 a2_0, .slice A2_1 l2_1.length c2_1] 32 (0, 0)) (by (with_reducible repeat (first | refine blk_drewN ?_ _ | refine blk_drew ?_ | refine blk_alloc ?_ _)); exact BK275.out) hb)
   have n5_ := Aside0.mk (below_step (by repeat (first | (with_reducible first | exact HB.out | apply below_alloc | apply pw_below_drewN | apply below_drew1 | refine below_set ?_ GE273.out | refine below_set ?_ GE274.out | refine below_set ?_ GE275.out) | exact HB.out)) hb)
   clear HO281
   clear BK273
   clear BK274
   clear BK275
   clear HB
   have HO281 := n0_
   have HO284 := n1_
   have BK273 := n2_
   have BK274 := n3_
   have BK275 := n4_
   have HB := n5_
   clear n0_ n1_ n2_ n3_ n4_ n5_
   (try clear hb)
   (try clear hb2)
   (try clear hk)
   (try clear hi)
   (try clear ho0)
   obtain ⟨Ao30, co30, eo30⟩ := Kd.R_slice HO281.out
   (first | subst eo30 | (injection eo30 with f1_ f2_ f3_; have f4_ := f1_.symm; have f5_ := f3_.symm; clear f1_ f2_ f3_; subst f4_; subst f5_))
   obtain ⟨Ao31, co31, eo31⟩ := Kd.R_slice HO284.out
   (first | subst eo31 | (injection eo31 with f1_ f2_ f3_; have f4_ := f1_.symm; have f5_ := f3_.symm; clear f1_ f2_ f3_; subst f4_; subst f5_))
   refine hK.out _ _ ⟨(blk_cell BK275.out 0).trans rfl, (blk_cell BK275.out 1).trans rfl, (blk_cell BK274.out 0).trans rfl, (blk_cell BK274.out 1).trans rfl, (blk_cell BK273.out 0).trans rfl, (blk_cell BK273.out 1).trans rfl⟩ (fun hHeld => ?_)
   clear hK K
   refine norm_ (a' := ?_) ?_ ?_
   rotate_left
   ·show Act.put _ (some 22) _ = _
    simp only [Act.put, List.setIfInBounds_toArray, List.set_cons_zero, List.set_cons_succ, i64_w, i32_w]
    rfl
   refine one_ (i := 7) (N := some 23) #[true, true, true, true, true, true, true, true, true, true, true, false, true, true, true, false, false, true, true, true, true, false, true, true, true, true, false, false, false, false] rfl rfl (one_of HT_.out (by kernel_rfl)) (by decide) (fun K hK => ?_)
   refine goes_ Try.func44 (by kernel_rfl) rfl #[.slice Ao30 t279.length co30, .slice Ao31 t282.length co31] (by rfl) rfl rfl (by (try simp only [List.map_toArray, List.map_cons, List.map_nil]); first | done | rfl | (simp only [List.length_drop, List.length_take]; rfl)) ?_
   with_reducible refine (slices_Compare_int_int.calls kj3 _ _ t279 _ _ t282 t285 _ ?side1 ?side2 ?side3 ?side4 A20.out).mono ?_
   (case side1 => repeat (first | exact (Kd.R_reads' HO281.out).2.2 | (with_reducible refine Kd.C_alloc ?_ _) | (with_reducible refine Kd.C_drewN ?_ _) | (with_reducible refine Kd.C_drew ?_)))
   (case side2 => exact (Kd.R_reads' HO281.out).2.1)
   (case side3 => repeat (first | exact (Kd.R_reads' HO284.out).2.2 | (with_reducible refine Kd.C_alloc ?_ _) | (with_reducible refine Kd.C_drewN ?_ _) | (with_reducible refine Kd.C_drew ?_)))
   (case side4 => exact (Kd.R_reads' HO284.out).2.1)
   rintro e w' ⟨rfl, ⟨nd, rfl⟩⟩
   refine ⟨_, rfl, ?_⟩
   refine hK.out _ _ ⟨(blk_cell BK275.out 0).trans rfl, (blk_cell BK275.out 1).trans rfl, (blk_cell BK274.out 0).trans rfl, (blk_cell BK274.out 1).trans rfl, (blk_cell BK273.out 0).trans rfl, (blk_cell BK273.out 1).trans rfl⟩ (fun hHeld => ?_)
   clear hK K
   refine norm_ (a' := ?_) ?_ ?_
   rotate_left
   ·show Act.put _ (some 23) _ = _
    simp only [Act.put, List.setIfInBounds_toArray, List.set_cons_zero, List.set_cons_succ, i64_w, i32_w]
    rfl
   refine one_ (i := 11) (N := some 27) #[true, true, true, true, true, true, true, true, true, true, true, true, true, true, true, false, false, true, true, true, true, false, true, true, true, true, false, false, false, false] rfl rfl (one_of HT_.out (by kernel_rfl)) (by decide) (fun K hK => ?_)
   refine goes_ Try.func45 (by kernel_rfl) rfl #[.agg #[.slice A0_0 l0_0.length c0_0, .int .u8 a0_1], .int .i64 a2_0] (by rfl) rfl rfl (by (try simp only [List.map_toArray, List.map_cons, List.map_nil]); first | done | rfl | (simp only [List.length_drop, List.length_take]; rfl)) ?_
   with_reducible refine (order_orderer_strength.calls kj3 _ _ l0_0 a0_1 a2_0 t286 _ ?side1 ?side2 A21.out).mono ?_
   (case side1 => repeat (first | exact (Kd.C_below HR0_0.out (by repeat (first | (with_reducible first | exact HB.out | apply below_alloc | apply pw_below_drewN | apply below_drew1 | refine below_set ?_ GE273.out | refine below_set ?_ GE274.out | refine below_set ?_ GE275.out) | exact HB.out))) | (with_reducible refine Kd.C_alloc ?_ _) | (with_reducible refine Kd.C_drewN ?_ _) | (with_reducible refine Kd.C_drew ?_)))
   (case side2 => exact HC0_0.out)
   rintro e w32 ⟨rfl, hb⟩
   refine ⟨_, rfl, ?_⟩
   have n0_ := Aside0.mk (Kd.R_below (by (with_reducible repeat (first | apply Kd.R_alloc | apply Kd.R_drewN | apply Kd.R_drew)); exact HO281.out) hb)
   have n1_ := Aside0.mk (Kd.R_below (by (with_reducible repeat (first | apply Kd.R_alloc | apply Kd.R_drewN | apply Kd.R_drew)); exact HO284.out) hb)
   have n2_ := Aside0.mk (blk_below (g := gb273) (o := .cells #[.slice A0_0 l0_0.length c0_0, .int .u8 a0_1] 53 (0, 0)) (by (with_reducible repeat (first | refine blk_drewN ?_ _ | refine blk_drew ?_ | refine blk_alloc ?_ _)); exact BK273.out) hb)
   have n3_ := Aside0.mk (blk_below (g := gb274) (o := .cells #[.int .i64 a1_0, .slice A1_1 l1_1.length c1_1] 32 (0, 0)) (by (with_reducible repeat (first | refine blk_drewN ?_ _ | refine blk_drew ?_ | refine blk_alloc ?_ _)); exact BK274.out) hb)
   have n4_ := Aside0.mk (blk_below (g := gb275) (o := .cells #[.int .i64 a2_0, .slice A2_1 l2_1.length c2_1] 32 (0, 0)) (by (with_reducible repeat (first | refine blk_drewN ?_ _ | refine blk_drew ?_ | refine blk_alloc ?_ _)); exact BK275.out) hb)
   have n5_ := Aside0.mk (below_step (by repeat (first | (with_reducible first | exact HB.out | apply below_alloc | apply pw_below_drewN | apply below_drew1 | refine below_set ?_ GE273.out | refine below_set ?_ GE274.out | refine below_set ?_ GE275.out) | exact HB.out)) hb)
   clear HO281
   clear HO284
   clear BK273
   clear BK274
   clear BK275
   clear HB
   have HO281 := n0_
   have HO284 := n1_
   have BK273 := n2_
   have BK274 := n3_
   have BK275 := n4_
   have HB := n5_
   clear n0_ n1_ n2_ n3_ n4_ n5_
   (try clear hb)
   (try clear hb2)
   (try clear hk)
   (try clear hi)
   refine hK.out _ _ ⟨(blk_cell BK275.out 0).trans rfl, (blk_cell BK275.out 1).trans rfl, (blk_cell BK274.out 0).trans rfl, (blk_cell BK274.out 1).trans rfl, (blk_cell BK273.out 0).trans rfl, (blk_cell BK273.out 1).trans rfl⟩ (fun hHeld => ?_)
   clear hK K
   refine norm_ (a' := ?_) ?_ ?_
   rotate_left
   ·show Act.put _ (some 27) _ = _
    simp only [Act.put, List.setIfInBounds_toArray, List.set_cons_zero, List.set_cons_succ, i64_w, i32_w]
    rfl
   refine one_ (i := 15) (N := some 31) #[true, true, true, true, true, true, true, true, true, true, true, true, true, true, true, true, false, true, true, true, true, false, true, true, true, true, false, false, false, false] rfl rfl (one_of HT_.out (by kernel_rfl)) (by decide) (fun K hK => ?_)
   refine goes_ Try.func45 (by kernel_rfl) rfl #[.agg #[.slice A0_0 l0_0.length c0_0, .int .u8 a0_1], .int .i64 a1_0] (by rfl) rfl rfl (by (try simp only [List.map_toArray, List.map_cons, List.map_nil]); first | done | rfl | (simp only [List.length_drop, List.length_take]; rfl)) ?_
   with_reducible refine (order_orderer_strength.calls kj3 _ _ l0_0 a0_1 a1_0 t287 _ ?side1 ?side2 A22.out).mono ?_
   (case side1 => repeat (first | exact (Kd.C_below HR0_0.out HB.out) | (with_reducible refine Kd.C_alloc ?_ _) | (with_reducible refine Kd.C_drewN ?_ _) | (with_reducible refine Kd.C_drew ?_)))
   (case side2 => exact HC0_0.out)
   rintro e w33 ⟨rfl, hb⟩
   refine ⟨_, rfl, ?_⟩
   have n0_ := Aside0.mk (Kd.R_below (by (with_reducible repeat (first | apply Kd.R_alloc | apply Kd.R_drewN | apply Kd.R_drew)); exact HO281.out) hb)
   have n1_ := Aside0.mk (Kd.R_below (by (with_reducible repeat (first | apply Kd.R_alloc | apply Kd.R_drewN | apply Kd.R_drew)); exact HO284.out) hb)
   have n2_ := Aside0.mk (blk_below (g := gb273) (o := .cells #[.slice A0_0 l0_0.length c0_0, .int .u8 a0_1] 53 (0, 0)) (by (with_reducible repeat (first | refine blk_drewN ?_ _ | refine blk_drew ?_ | refine blk_alloc ?_ _)); exact BK273.out) hb)
   have n3_ := Aside0.mk (blk_below (g := gb274) (o := .cells #[.int .i64 a1_0, .slice A1_1 l1_1.length c1_1] 32 (0, 0)) (by (with_reducible repeat (first | refine blk_drewN ?_ _ | refine blk_drew ?_ | refine blk_alloc ?_ _)); exact BK274.out) hb)
   have n4_ := Aside0.mk (blk_below (g := gb275) (o := .cells #[.int .i64 a2_0, .slice A2_1 l2_1.length c2_1] 32 (0, 0)) (by (with_reducible repeat (first | refine blk_drewN ?_ _ | refine blk_drew ?_ | refine blk_alloc ?_ _)); exact BK275.out) hb)
   have n5_ := Aside0.mk (below_step (by repeat (first | (with_reducible first | exact HB.out | apply below_alloc | apply pw_below_drewN | apply below_drew1 | refine below_set ?_ GE273.out | refine below_set ?_ GE274.out | refine below_set ?_ GE275.out) | exact HB.out)) hb)
   clear HO281
   clear HO284
   clear BK273
   clear BK274
   clear BK275
   clear HB
   have HO281 := n0_
   have HO284 := n1_
   have BK273 := n2_
   have BK274 := n3_
   have BK275 := n4_
   have HB := n5_
   clear n0_ n1_ n2_ n3_ n4_ n5_
   (try clear hb)
   (try clear hb2)
   (try clear hk)
   (try clear hi)
   refine hK.out _ _ ⟨(blk_cell BK275.out 0).trans rfl, (blk_cell BK275.out 1).trans rfl, (blk_cell BK274.out 0).trans rfl, (blk_cell BK274.out 1).trans rfl, (blk_cell BK273.out 0).trans rfl, (blk_cell BK273.out 1).trans rfl⟩ (fun hHeld => ?_)
   clear hK K
   refine norm_ (a' := ?_) ?_ ?_
   rotate_left
   ·show Act.put _ (some 31) _ = _
    simp only [Act.put, List.setIfInBounds_toArray, List.set_cons_zero, List.set_cons_succ, i64_w, i32_w]
    rfl
   refine one_ (i := 16) (N := some 32) #[true, true, true, true, true, true, true, true, true, true, true, true, true, true, true, true, true, true, true, true, true, false, true, true, true, true, false, false, false, false] rfl rfl (one_of HT_.out (by kernel_rfl)) (by decide) (fun K hK => ?_)
   refine goes_ Try.func41 (by kernel_rfl) rfl #[.int .i64 t286, .int .i64 t287] (by rfl) rfl rfl (by (try simp only [List.map_toArray, List.map_cons, List.map_nil]); first | done | rfl | (simp only [List.length_drop, List.length_take]; rfl)) ?_
   with_reducible refine (cmp_Compare_int.calls t286 t287 t288 _ A23.out).mono ?_
   rintro e w' ⟨rfl, ⟨nd, rfl⟩⟩
   refine ⟨_, rfl, ?_⟩
   refine hK.out _ _ ⟨(blk_cell BK275.out 0).trans rfl, (blk_cell BK275.out 1).trans rfl, (blk_cell BK274.out 0).trans rfl, (blk_cell BK274.out 1).trans rfl, (blk_cell BK273.out 0).trans rfl, (blk_cell BK273.out 1).trans rfl⟩ (fun hHeld => ?_)
   clear hK K
   refine norm_ (a' := ?_) ?_ ?_
   rotate_left
   ·show Act.put _ (some 32) _ = _
    simp only [Act.put, List.setIfInBounds_toArray, List.set_cons_zero, List.set_cons_succ, i64_w, i32_w]
    rfl
   refine one_ (i := 21) (N := some 37) #[true, true, true, true, true, true, true, true, true, true, true, true, true, true, true, true, true, true, true, true, true, true, true, true, true, true, false, false, false, false] rfl rfl (one_of HT_.out (by kernel_rfl)) (by decide) (fun K hK => ?_)
   refine goes_ Try.func41 (by kernel_rfl) rfl #[.int .i64 a1_0, .int .i64 a2_0] (by rfl) rfl rfl (by (try simp only [List.map_toArray, List.map_cons, List.map_nil]); first | done | rfl | (simp only [List.length_drop, List.length_take]; rfl)) ?_
   with_reducible refine (cmp_Compare_int.calls a1_0 a2_0 t289 _ A24.out).mono ?_
   rintro e w' ⟨rfl, ⟨nd, rfl⟩⟩
   refine ⟨_, rfl, ?_⟩
   refine hK.out _ _ ⟨(blk_cell BK275.out 0).trans rfl, (blk_cell BK275.out 1).trans rfl, (blk_cell BK274.out 0).trans rfl, (blk_cell BK274.out 1).trans rfl, (blk_cell BK273.out 0).trans rfl, (blk_cell BK273.out 1).trans rfl⟩ (fun hHeld => ?_)
   clear hK K
   refine norm_ (a' := ?_) ?_ ?_
   rotate_left
   ·show Act.put _ (some 37) _ = _
    simp only [Act.put, List.setIfInBounds_toArray, List.set_cons_zero, List.set_cons_succ, i64_w, i32_w]
    rfl
   refine one_ (i := 26) (N := some 42) #[true, true, true, true, true, true, true, true, true, true, true, true, true, true, true, true, true, true, true, true, true, true, true, true, true, true, true, false, false, false] rfl rfl (one_of HT_.out (by kernel_rfl)) (by decide) (fun K hK => ?_)
   refine goes_ Try.func44 (by kernel_rfl) rfl #[.slice A1_1 l1_1.length c1_1, .slice A2_1 l2_1.length c2_1] (by rfl) rfl rfl (by (try simp only [List.map_toArray, List.map_cons, List.map_nil]); first | done | rfl | (simp only [List.length_drop, List.length_take]; rfl)) ?_
   with_reducible refine (slices_Compare_int_int.calls kj3 _ _ l1_1 _ _ l2_1 t290 _ ?side1 ?side2 ?side3 ?side4 A25.out).mono ?_
   (case side1 => repeat (first | exact (Kd.C_below HR1_1.out (by repeat (first | (with_reducible first | exact HB.out | apply below_alloc | apply pw_below_drewN | apply below_drew1 | refine below_set ?_ GE273.out | refine below_set ?_ GE274.out | refine below_set ?_ GE275.out) | exact HB.out))) | (with_reducible refine Kd.C_alloc ?_ _) | (with_reducible refine Kd.C_drewN ?_ _) | (with_reducible refine Kd.C_drew ?_)))
   (case side2 => exact HC1_1.out)
   (case side3 => repeat (first | exact (Kd.C_below HR2_1.out (by repeat (first | (with_reducible first | exact HB.out | apply below_alloc | apply pw_below_drewN | apply below_drew1 | refine below_set ?_ GE273.out | refine below_set ?_ GE274.out | refine below_set ?_ GE275.out) | exact HB.out))) | (with_reducible refine Kd.C_alloc ?_ _) | (with_reducible refine Kd.C_drewN ?_ _) | (with_reducible refine Kd.C_drew ?_)))
   (case side4 => exact HC2_1.out)
   rintro e w' ⟨rfl, ⟨nd, rfl⟩⟩
   refine ⟨_, rfl, ?_⟩
   refine hK.out _ _ ⟨(blk_cell BK275.out 0).trans rfl, (blk_cell BK275.out 1).trans rfl, (blk_cell BK274.out 0).trans rfl, (blk_cell BK274.out 1).trans rfl, (blk_cell BK273.out 0).trans rfl, (blk_cell BK273.out 1).trans rfl⟩ (fun hHeld => ?_)
   clear hK K
   refine norm_ (a' := ?_) ?_ ?_
   rotate_left
   ·show Act.put _ (some 42) _ = _
    simp only [Act.put, List.setIfInBounds_toArray, List.set_cons_zero, List.set_cons_succ, i64_w, i32_w]
    rfl
   refine one_ (i := 27) (N := some 43) #[true, true, true, true, true, true, true, true, true, true, true, true, true, true, true, true, true, true, true, true, true, true, true, true, true, true, true, true, false, false] rfl rfl (one_of HT_.out (by kernel_rfl)) (by decide) (fun K hK => ?_)
   refine Kd.R_lit_step (Kd.int .i64) _ 3 ?hg (N := 43) ?hd (xs := ([x7_3, t285, t288, t289, t290] : List Int)) (inner := [.int .i64 x7_3, .int .i64 t285, .int .i64 t288, .int .i64 t289, .int .i64 t290]) (ok := fun _ => True) (okp := fun _ => True) ?hr ?hp (fun _ hk => hk) trivial (Below.refl _ _) (Nat.le_refl _) (by simp) ?_; (case hd => rfl); (case hg => rfl); (case hr => first | (go_simp; done) | (go_simp; rfl)); (case hp => exact (Reps.one (show Kd.M (Kd.int .i64) _ _ _ x7_3 [.int .i64 x7_3] from rfl) (Reps.one (show Kd.M (Kd.int .i64) _ _ _ t285 [.int .i64 t285] from rfl) (Reps.one (show Kd.M (Kd.int .i64) _ _ _ t288 [.int .i64 t288] from rfl) (Reps.one (show Kd.M (Kd.int .i64) _ _ _ t289 [.int .i64 t289] from rfl) (Reps.one (show Kd.M (Kd.int .i64) _ _ _ t290 [.int .i64 t290] from rfl) (Reps.none _ _)))))))
   intro v292 w34 ho35 hb hg_ hnew_
   clear hg_ hnew_
   (first | rw [← Ny291.out] at ho35 | (simp only [Int.reduceToNat] at ho35; rw [← Ny291.out] at ho35))
   have n0_ := Aside0.mk (Kd.R_elder' (by (with_reducible repeat (first | apply Kd.R_alloc | apply Kd.R_drewN | apply Kd.R_drew)); exact HO281.out) (Kd.R_base ho35) hb)
   have n1_ := Aside0.mk (Kd.R_elder' (by (with_reducible repeat (first | apply Kd.R_alloc | apply Kd.R_drewN | apply Kd.R_drew)); exact HO284.out) (Kd.R_base ho35) hb)
   have n2_ := Aside0.mk (Kd.R_lower (Kd.R_new' (Kd.R_new' ho35 (Kd.R_lt (by (with_reducible repeat (first | apply Kd.R_alloc | apply Kd.R_drewN | apply Kd.R_drew)); exact HO281.out))) (Kd.R_lt (by (with_reducible repeat (first | apply Kd.R_alloc | apply Kd.R_drewN | apply Kd.R_drew)); exact HO284.out))) (below_size (by repeat (first | (with_reducible first | exact HB.out | apply below_alloc | apply pw_below_drewN | apply below_drew1 | refine below_set ?_ GE273.out | refine below_set ?_ GE274.out | refine below_set ?_ GE275.out) | exact HB.out))))
   have n3_ := Aside0.mk (blk_below (g := gb273) (o := .cells #[.slice A0_0 l0_0.length c0_0, .int .u8 a0_1] 53 (0, 0)) (by (with_reducible repeat (first | refine blk_drewN ?_ _ | refine blk_drew ?_ | refine blk_alloc ?_ _)); exact BK273.out) hb)
   have n4_ := Aside0.mk (blk_below (g := gb274) (o := .cells #[.int .i64 a1_0, .slice A1_1 l1_1.length c1_1] 32 (0, 0)) (by (with_reducible repeat (first | refine blk_drewN ?_ _ | refine blk_drew ?_ | refine blk_alloc ?_ _)); exact BK274.out) hb)
   have n5_ := Aside0.mk (blk_below (g := gb275) (o := .cells #[.int .i64 a2_0, .slice A2_1 l2_1.length c2_1] 32 (0, 0)) (by (with_reducible repeat (first | refine blk_drewN ?_ _ | refine blk_drew ?_ | refine blk_alloc ?_ _)); exact BK275.out) hb)
   have n6_ := Aside0.mk (below_step (by repeat (first | (with_reducible first | exact HB.out | apply below_alloc | apply pw_below_drewN | apply below_drew1 | refine below_set ?_ GE273.out | refine below_set ?_ GE274.out | refine below_set ?_ GE275.out) | exact HB.out)) hb)
   clear HO281
   clear HO284
   clear BK273
   clear BK274
   clear BK275
   clear HB
   have HO281 := n0_
   have HO284 := n1_
   have HO293 := n2_
   have BK273 := n3_
   have BK274 := n4_
   have BK275 := n5_
   have HB := n6_
   clear n0_ n1_ n2_ n3_ n4_ n5_ n6_
   clear hb ho35
   obtain ⟨Ao36, co36, eo36⟩ := Kd.R_slice HO293.out
   (first | subst eo36 | (injection eo36 with f1_ f2_ f3_; have f4_ := f1_.symm; have f5_ := f3_.symm; clear f1_ f2_ f3_; subst f4_; subst f5_))
   refine hK.out _ _ ⟨(blk_cell BK275.out 0).trans rfl, (blk_cell BK275.out 1).trans rfl, (blk_cell BK274.out 0).trans rfl, (blk_cell BK274.out 1).trans rfl, (blk_cell BK273.out 0).trans rfl, (blk_cell BK273.out 1).trans rfl⟩ (fun hHeld => ?_)
   clear hK K
   refine norm_ (a' := ?_) ?_ ?_
   rotate_left
   ·show Act.put _ (some 43) _ = _
    simp only [Act.put, List.setIfInBounds_toArray, List.set_cons_zero, List.set_cons_succ, i64_w, i32_w]
    rfl
   refine one_ (i := 28) (N := some 44) #[true, true, true, true, true, true, true, true, true, true, true, true, true, true, true, true, true, true, true, true, true, true, true, true, true, true, true, true, true, false] rfl rfl (one_of HT_.out (by kernel_rfl)) (by decide) (fun K hK => ?_)
   refine goes_ Try.func43 (by kernel_rfl) rfl #[.slice Ao36 y291.length co36] (by rfl) rfl rfl (by (try simp only [List.map_toArray, List.map_cons, List.map_nil]); first | done | rfl | (simp only [List.length_drop, List.length_take]; rfl)) ?_
   with_reducible refine (cmp_Or_int.calls kj3 _ _ y291 t294 _ ?side1 ?side2 A26.out).mono ?_
   (case side1 => repeat (first | exact (Kd.R_reads' HO293.out).2.2 | (with_reducible refine Kd.C_alloc ?_ _) | (with_reducible refine Kd.C_drewN ?_ _) | (with_reducible refine Kd.C_drew ?_)))
   (case side2 => exact (Kd.R_reads' HO293.out).2.1)
   rintro e w' ⟨rfl, ⟨nd, rfl⟩⟩
   refine ⟨_, rfl, ?_⟩
   refine hK.out _ _ ⟨(blk_cell BK275.out 0).trans rfl, (blk_cell BK275.out 1).trans rfl, (blk_cell BK274.out 0).trans rfl, (blk_cell BK274.out 1).trans rfl, (blk_cell BK273.out 0).trans rfl, (blk_cell BK273.out 1).trans rfl⟩ (fun hHeld => ?_)
   clear hK K
   refine norm_ (a' := ?_) ?_ ?_
   rotate_left
   ·show Act.put _ (some 44) _ = _
    simp only [Act.put, List.setIfInBounds_toArray, List.set_cons_zero, List.set_cons_succ, i64_w, i32_w]
    rfl
   refine pure_ (i := 29) (N := some 6) (v := ?_) (a' := ?_) #[true, true, true, true, true, true, true, true, true, true, true, true, true, true, true, true, true, true, true, true, true, true, true, true, true, true, true, true, true, true] rfl rfl (any_of HT_.out (by kernel_rfl)) (fun _ _ _ h => h) (Or.inl ⟨by rfl, ?_⟩) ?_ ?_
   rotate_left
   ·intro w'
    go_simp
    with_reducible rfl
   rotate_left
   ·simp only [Act.put, List.setIfInBounds_toArray, List.set_cons_zero, List.set_cons_succ, i64_w, i32_w]
    rfl
   refine done_ (done_of HT_.out (by kernel_rfl)) ?_
   try go_wp2
   go_ret
   exact ⟨by first | rfl | (simp [errW_none, errW_some] <;> rfl) | (simp [*, errW_none, errW_some] <;> rfl), by repeat (first | (with_reducible first | exact HB.out | apply below_alloc | apply pw_below_drewN | apply below_drew1 | refine below_set ?_ GE273.out | refine below_set ?_ GE274.out | refine below_set ?_ GE275.out) | exact HB.out)⟩

end Go.Proofs.Ytjkdfjkaeoklmaa.Q
-- Made by this session's wip/tools/myprint.py (the kit's print.py, with this session's hooks) out of the translation; Lean checks it.
namespace Go.Proofs.Ytjkdfjkaeoklmaa.Q
open Go.RowKit Go.Proofs.YtjkdfjkaeoklmaaW.PrintWords Go.Proofs.YtjkdfjkaeoklmaaW.PrintLast Go.Proofs.YtjkdfjkaeoklmaaW.PrintMore
attribute [local go_sem] max2_int min2_int max_two min_two max_three min_three max_four min_four   -- for this text's walks alone
set_option linter.unusedVariables false
set_option linter.unusedSimpArgs false

/-! ### intarsiaref26_first: function 25 -/
def intarsiaref26_first.f (l0 : List Int) : Option (Int) := if (l0.length : Int) = 0 then (some 0) else (if 0 < (l0.length : Int) then (some (rd l0 0)) else (none))
end Go.Proofs.Ytjkdfjkaeoklmaa.Q

-- Made by this session's wip/tools/myprint.py (the kit's print.py, with this session's hooks) out of the translation; Lean checks it.
namespace Go.Proofs.Ytjkdfjkaeoklmaa.Q
open Go.RowKit Go.Proofs.YtjkdfjkaeoklmaaW.PrintWords Go.Proofs.YtjkdfjkaeoklmaaW.PrintLast Go.Proofs.YtjkdfjkaeoklmaaW.PrintMore
attribute [local go_sem] max2_int min2_int max_two min_two max_three min_three max_four min_four   -- for this text's walks alone
set_option linter.unusedVariables false
set_option linter.unusedSimpArgs false

/-! ### intarsiaref20_Tests: function 38 -/
def intarsiaref20_Tests.l0 : Nat → Int → Int → Bool → ByteArray → List (S84) → Option (Int)
 | 0, _, _, _, _, _ => none
 | k + 1, x3, x4, x307000, x307001, x307002 => if x4 < (x307002.length : Int) then (if 0 ≤ x4 then (if (((rd_T84 x307002 x4).f1).length : Int) > 0 then (intarsiaref20_Tests.l0 k (wrap64 ((wrap64 (x3 + (((rd_T84 x307002 x4).f2).length : Int))) + 1)) (wrap64 (x4 + 1)) x307000 x307001 x307002) else (intarsiaref20_Tests.l0 k (wrap64 (x3 + (((rd_T84 x307002 x4).f2).length : Int))) (wrap64 (x4 + 1)) x307000 x307001 x307002)) else (none)) else (some x3)
def intarsiaref20_Tests.f (k : Nat) (a0_0 : Bool) (a0_1 : ByteArray) (l0_2 : List (S84)) : Option (Int) := intarsiaref20_Tests.l0 k 1 0 a0_0 a0_1 l0_2
end Go.Proofs.Ytjkdfjkaeoklmaa.Q
-- Made by this session's wip/tools/myprint.py (the kit's print.py, with this session's hooks) out of the translation; Lean checks it.
namespace Go.Proofs.Ytjkdfjkaeoklmaa.Q
open Go.RowKit Go.Proofs.YtjkdfjkaeoklmaaW.PrintWords Go.Proofs.YtjkdfjkaeoklmaaW.PrintLast Go.Proofs.YtjkdfjkaeoklmaaW.PrintMore
attribute [local go_sem] max2_int min2_int max_two min_two max_three min_three max_four min_four   -- for this text's walks alone
set_option linter.unusedVariables false
set_option linter.unusedSimpArgs false

/-! ### intarsiaref26_Strength: function 18 -/
def intarsiaref26_Strength.l0 : Nat → Int → Int → ByteArray → List (S65) → List (S89) → Option (Int)
 | 0, _, _, _, _, _ => none
 | k + 1, x3, x4, x310000, x310001, x310002 => if x4 < (x310001.length : Int) then (if 0 ≤ x4 then ((intarsiaref20_Tests.f k ((rd_T65 x310001 x4).f0) ((rd_T65 x310001 x4).f1) ((rd_T65 x310001 x4).f2)).bind fun t311 => (intarsiaref26_Strength.l0 k (wrap64 (x3 + t311)) (wrap64 (x4 + 1)) x310000 x310001 x310002)) else (none)) else (some x3)
def intarsiaref26_Strength.f (k : Nat) (a0_0 : ByteArray) (l0_1 : List (S65)) (l0_2 : List (S89)) : Option (Int) := intarsiaref26_Strength.l0 k 0 0 a0_0 l0_1 l0_2
end Go.Proofs.Ytjkdfjkaeoklmaa.Q
-- Made by this session's wip/tools/myprint.py (the kit's print.py, with this session's hooks) out of the translation; Lean checks it.
namespace Go.Proofs.Ytjkdfjkaeoklmaa.Q
open Go.RowKit Go.Proofs.YtjkdfjkaeoklmaaW.PrintWords Go.Proofs.YtjkdfjkaeoklmaaW.PrintLast Go.Proofs.YtjkdfjkaeoklmaaW.PrintMore
attribute [local go_sem] max2_int min2_int max_two min_two max_three min_three max_four min_four   -- for this text's walks alone
set_option linter.unusedVariables false
set_option linter.unusedSimpArgs false

/-! ### intarsiaref26_strength: function 27 -/
def intarsiaref26_strength.f (k : Nat) (l0 : List (S45)) (a1 : Int) : Option (Int) := if a1 < 0 then (some 0) else (if a1 ≥ (l0.length : Int) then (some 0) else (if 0 ≤ a1 then (if a1 < (l0.length : Int) then ((intarsiaref26_Strength.f k ((rd_T45 l0 a1).f0) ((rd_T45 l0 a1).f1) ((rd_T45 l0 a1).f2)).bind fun t313 => (some t313)) else (none)) else (none)))
end Go.Proofs.Ytjkdfjkaeoklmaa.Q

namespace Go.Proofs.Ytjkdfjkaeoklmaa.Q
open Go.RowKit Go.Proofs.YtjkdfjkaeoklmaaW.PrintWords Go.Proofs.YtjkdfjkaeoklmaaW.PrintLast Go.Proofs.YtjkdfjkaeoklmaaW.PrintMore
set_option linter.unusedVariables false
set_option linter.unusedSimpArgs false
theorem recency_perm (l : List Int) : (recency l).Perm (l.filter pos?) := (List.reverse_perm _).trans (srt_perm _)
theorem recency_len (l : List Int) : (recency l).length ≤ l.length := by
  rw [(recency_perm l).length_eq]
  exact List.length_filter_le _ _

end Go.Proofs.Ytjkdfjkaeoklmaa.Q

namespace Go.Proofs.Ytjkdfjkaeoklmaa.Q
open Go.RowKit Go.Proofs.YtjkdfjkaeoklmaaW.PrintWords Go.Proofs.YtjkdfjkaeoklmaaW.PrintLast Go.Proofs.YtjkdfjkaeoklmaaW.PrintMore
set_option linter.unusedVariables false
set_option linter.unusedSimpArgs false
/-- Which of two numbers is the greater one. -/
def cmpI (a b : Int) : Int := if a < b then -1 else if a > b then 1 else 0
theorem cmpI_val (a b : Int) : cmp_Compare_int.f a b = some (cmpI a b) := by
  simp only [cmp_Compare_int.f, cmp_isNaN_int.f, cmpI, bne_self_eq_false, Option.bind_some]
  split
  · rename_i h; cases h
  · split <;> (try split) <;> rfl
/-- Numbers in a row, the first ones first. -/
def cmpL : List Int → List Int → Int
  | [], [] => 0
  | [], _ :: _ => -1
  | _ :: _, [] => 1
  | x :: l, y :: m => if cmpI x y = 0 then cmpL l m else cmpI x y
theorem rd_at {l : List Int} {i : Nat} (h : i < l.length) : rd l (i : Int) = l[i] := by simp [rd, h]
theorem one_round {α : Type} {g : Nat → Option α} {r : α} (h : ∀ k, g (k + 1) = some r) : Ev g r := ⟨1, fun k hk => by
  obtain ⟨m, rfl⟩ : ∃ m, k = m + 1 := ⟨k - 1, by omega⟩
  exact h m⟩
theorem cmpL_l0 (l m : List Int) (hb : l.length ≤ 9223372036854775807) : ∀ (n i : Nat), l.length - i = n → i ≤ l.length → Ev (fun k => slices_Compare_int_int.l0 k l m l (l.length : Int) (i : Int)) (cmpL (l.drop i) (m.drop i))
  | 0, i, hn, hi => by
    obtain rfl : i = l.length := by omega
    refine one_round (fun k => ?_)
    simp only [slices_Compare_int_int.l0]
    rw [if_neg (by omega), List.drop_length]
    by_cases h : l.length < m.length
    · rw [if_pos (by omega), List.drop_eq_getElem_cons h]; rfl
    · rw [if_neg (by omega), List.drop_of_length_le (by omega)]; rfl
  | n + 1, i, hn, hi => by
    have hlt : i < l.length := by omega
    by_cases hm : i < m.length
    · rw [List.drop_eq_getElem_cons hlt, List.drop_eq_getElem_cons hm, cmpL]
      by_cases hc : cmpI l[i] m[i] = 0
      · rw [if_pos hc]
        refine Ev.step (fun k => ?_) (cmpL_l0 l m hb n (i + 1) (by omega) (by omega))
        simp only [slices_Compare_int_int.l0]
        rw [if_pos (by omega), if_pos (by omega), if_pos (by omega), if_neg (by omega), if_pos (by omega), rd_at hlt, rd_at hm, cmpI_val, Option.bind_some, if_pos hc, w64 (by omega) (by omega)]
        rfl
      · rw [if_neg hc]
        refine one_round (fun k => ?_)
        simp only [slices_Compare_int_int.l0]
        rw [if_pos (by omega), if_pos (by omega), if_pos (by omega), if_neg (by omega), if_pos (by omega), rd_at hlt, rd_at hm, cmpI_val, Option.bind_some, if_neg hc]
    · rw [List.drop_eq_getElem_cons hlt, List.drop_of_length_le (show m.length ≤ i by omega), cmpL]
      refine one_round (fun k => ?_)
      simp only [slices_Compare_int_int.l0]
      rw [if_pos (by omega), if_pos (by omega), if_pos (by omega), if_pos (by omega)]
theorem cmpL_val (l m : List Int) (hb : l.length ≤ 9223372036854775807) : Ev (fun k => slices_Compare_int_int.f k l m) (cmpL l m) := by
  have := cmpL_l0 l m hb _ 0 rfl (Nat.zero_le _)
  simpa [slices_Compare_int_int.f] using this
/-- The first that is not zero. -/
def orP : List Int → Int
  | [] => 0
  | x :: l => if x = 0 then orP l else x
theorem orP_l0 (l : List Int) (hb : l.length ≤ 9223372036854775807) : ∀ (n i : Nat), l.length - i = n → i ≤ l.length → Ev (fun k => cmp_Or_int.l0 k 0 l (l.length : Int) (i : Int)) (orP (l.drop i))
  | 0, i, hn, hi => by
    obtain rfl : i = l.length := by omega
    refine one_round (fun k => ?_)
    simp only [cmp_Or_int.l0]
    rw [if_neg (by omega), List.drop_length]
    rfl
  | n + 1, i, hn, hi => by
    have hlt : i < l.length := by omega
    rw [List.drop_eq_getElem_cons hlt, orP]
    by_cases hc : l[i] = 0
    · rw [if_pos hc]
      refine Ev.step (fun k => ?_) (orP_l0 l hb n (i + 1) (by omega) (by omega))
      simp only [cmp_Or_int.l0]
      rw [if_pos (by omega), if_pos (by omega), if_pos (by omega), rd_at hlt, if_pos hc, w64 (by omega) (by omega)]
      rfl
    · rw [if_neg hc]
      refine one_round (fun k => ?_)
      simp only [cmp_Or_int.l0]
      rw [if_pos (by omega), if_pos (by omega), if_pos (by omega), rd_at hlt, if_neg hc]
theorem orP_val (l : List Int) (hb : l.length ≤ 9223372036854775807) : Ev (fun k => cmp_Or_int.f k l) (orP l) := by
  have := orP_l0 l hb _ 0 rfl (Nat.zero_le _)
  simpa [cmp_Or_int.f] using this
/-- The first tag; 0: none. -/
def firstP (l : List Int) : Int := l.headD 0
theorem first_val (a : Int) (l : List Int) : order_first.f a l = some (firstP l) ∧ intarsiaref26_first.f l = some (firstP l) := by
  cases l with
  | nil => simp [order_first.f, intarsiaref26_first.f, firstP]
  | cons x r =>
    have h1 : ¬ (((x :: r).length : Int) = 0) := by rw [List.length_cons]; omega
    have h2 : (0 : Int) < ((x :: r).length : Int) := by rw [List.length_cons]; omega
    rw [order_first.f, intarsiaref26_first.f, if_neg h1, if_pos h2]
    simp [firstP, rd]
/-- A condition's tests, told on from n; numbers wrap round. -/
def testsP : Int → List S84 → Int
  | n, [] => n
  | n, c :: r => testsP (if (c.f1.length : Int) > 0 then wrap64 (wrap64 (n + (c.f2.length : Int)) + 1) else wrap64 (n + (c.f2.length : Int))) r
theorem rd84_at {l : List S84} {i : Nat} (h : i < l.length) : rd_T84 l (i : Int) = l[i] := by simp [rd_T84, h]
theorem rd65_at {l : List S65} {i : Nat} (h : i < l.length) : rd_T65 l (i : Int) = l[i] := by simp [rd_T65, h]
theorem rd45_at {l : List S45} {i : Nat} (h : i < l.length) : rd_T45 l (i : Int) = l[i] := by simp [rd_T45, h]
theorem rd32_at {l : List S32} {i : Nat} (h : i < l.length) : rd_T32 l (i : Int) = l[i] := by simp [rd_T32, h]
theorem tests_l0 (l : List S84) (hb : l.length ≤ 9223372036854775807) : ∀ (n i : Nat) (x : Int), l.length - i = n → i ≤ l.length → Ev (fun k => test_Tests.l0 k x l (l.length : Int) (i : Int)) (testsP x (l.drop i))
  | 0, i, x, hn, hi => by
    obtain rfl : i = l.length := by omega
    refine one_round (fun k => ?_)
    simp only [test_Tests.l0]
    rw [if_neg (by omega), List.drop_length]
    rfl
  | n + 1, i, x, hn, hi => by
    have hlt : i < l.length := by omega
    rw [List.drop_eq_getElem_cons hlt, testsP]
    refine Ev.step (fun k => ?_) (tests_l0 l hb n (i + 1) _ (by omega) (by omega))
    simp only [test_Tests.l0]
    rw [if_pos (by omega), if_pos (by omega), if_pos (by omega), rd84_at hlt, w64 (x := (i : Int) + 1) (by omega) (by omega)]
    split <;> rfl
theorem rtests_l0 (a : Bool) (b : ByteArray) (l : List S84) (hb : l.length ≤ 9223372036854775807) : ∀ (n i : Nat) (x : Int), l.length - i = n → i ≤ l.length → Ev (fun k => intarsiaref20_Tests.l0 k x (i : Int) a b l) (testsP x (l.drop i))
  | 0, i, x, hn, hi => by
    obtain rfl : i = l.length := by omega
    refine one_round (fun k => ?_)
    simp only [intarsiaref20_Tests.l0]
    rw [if_neg (by omega), List.drop_length]
    rfl
  | n + 1, i, x, hn, hi => by
    have hlt : i < l.length := by omega
    rw [List.drop_eq_getElem_cons hlt, testsP]
    refine Ev.step (fun k => ?_) (rtests_l0 a b l hb n (i + 1) _ (by omega) (by omega))
    simp only [intarsiaref20_Tests.l0]
    rw [if_pos (by omega), if_pos (by omega), rd84_at hlt, w64 (x := (i : Int) + 1) (by omega) (by omega)]
    split <;> rfl
theorem tests_val (a : Bool) (b : ByteArray) (l : List S84) (hb : l.length ≤ 9223372036854775807) : Ev (fun k => test_Tests.f k a b l) (testsP 1 l) ∧ Ev (fun k => intarsiaref20_Tests.f k a b l) (testsP 1 l) := by
  have h1 := tests_l0 l hb _ 0 1 rfl (Nat.zero_le _)
  have h2 := rtests_l0 a b l hb _ 0 1 rfl (Nat.zero_le _)
  exact ⟨by simpa [test_Tests.f] using h1, by simpa [intarsiaref20_Tests.f] using h2⟩
/-- A rule's strength, told on from n. -/
def strP : Int → List S65 → Int
  | n, [] => n
  | n, c :: r => strP (wrap64 (n + testsP 1 c.f2)) r
theorem str_l0 (l : List S65) (hb : l.length ≤ 9223372036854775807) (hc : ∀ c ∈ l, c.f2.length ≤ 9223372036854775807) : ∀ (n i : Nat) (x : Int), l.length - i = n → i ≤ l.length → Ev (fun k => order_Strength.l0 k x l (l.length : Int) (i : Int)) (strP x (l.drop i))
  | 0, i, x, hn, hi => by
    obtain rfl : i = l.length := by omega
    refine one_round (fun k => ?_)
    simp only [order_Strength.l0]
    rw [if_neg (by omega), List.drop_length]
    rfl
  | n + 1, i, x, hn, hi => by
    have hlt : i < l.length := by omega
    rw [List.drop_eq_getElem_cons hlt, strP]
    refine Ev.step (f := fun k => (test_Tests.f k l[i].f0 l[i].f1 l[i].f2).bind fun t => order_Strength.l0 k (wrap64 (x + t)) l (l.length : Int) ((i + 1 : Nat) : Int)) (fun k => ?_) (Ev.bind (tests_val l[i].f0 l[i].f1 _ (hc _ (List.getElem_mem hlt))).1 (str_l0 l hb hc n (i + 1) _ (by omega) (by omega)))
    simp only [order_Strength.l0]
    rw [if_pos (by omega), if_pos (by omega), if_pos (by omega), rd65_at hlt, w64 (x := (i : Int) + 1) (by omega) (by omega)]
    rfl
theorem rstr_l0 (a : ByteArray) (b : List S89) (l : List S65) (hb : l.length ≤ 9223372036854775807) (hc : ∀ c ∈ l, c.f2.length ≤ 9223372036854775807) : ∀ (n i : Nat) (x : Int), l.length - i = n → i ≤ l.length → Ev (fun k => intarsiaref26_Strength.l0 k x (i : Int) a l b) (strP x (l.drop i))
  | 0, i, x, hn, hi => by
    obtain rfl : i = l.length := by omega
    refine one_round (fun k => ?_)
    simp only [intarsiaref26_Strength.l0]
    rw [if_neg (by omega), List.drop_length]
    rfl
  | n + 1, i, x, hn, hi => by
    have hlt : i < l.length := by omega
    rw [List.drop_eq_getElem_cons hlt, strP]
    refine Ev.step (f := fun k => (intarsiaref20_Tests.f k l[i].f0 l[i].f1 l[i].f2).bind fun t => intarsiaref26_Strength.l0 k (wrap64 (x + t)) ((i + 1 : Nat) : Int) a l b) (fun k => ?_) (Ev.bind (tests_val l[i].f0 l[i].f1 _ (hc _ (List.getElem_mem hlt))).2 (rstr_l0 a b l hb hc n (i + 1) _ (by omega) (by omega)))
    simp only [intarsiaref26_Strength.l0]
    rw [if_pos (by omega), if_pos (by omega), rd65_at hlt, w64 (x := (i : Int) + 1) (by omega) (by omega)]
    rfl
theorem str_val (a : ByteArray) (l : List S65) (b : List S89) (hb : l.length ≤ 9223372036854775807) (hc : ∀ c ∈ l, c.f2.length ≤ 9223372036854775807) : Ev (fun k => order_Strength.f k a l b) (strP 0 l) ∧ Ev (fun k => intarsiaref26_Strength.f k a l b) (strP 0 l) := by
  have h1 := str_l0 l hb hc _ 0 0 rfl (Nat.zero_le _)
  have h2 := rstr_l0 a b l hb hc _ 0 0 rfl (Nat.zero_le _)
  exact ⟨by simpa [order_Strength.f] using h1, by simpa [intarsiaref26_Strength.f] using h2⟩
/-- What is asked of rules' lengths. -/
def okRules (l : List S45) : Prop := l.length ≤ 9223372036854775807 ∧ ∀ r ∈ l, r.f1.length ≤ 9223372036854775807 ∧ ∀ c ∈ r.f1, c.f2.length ≤ 9223372036854775807
/-- The strength of a rule's place. -/
def strAt (l : List S45) (i : Int) : Int := if 0 ≤ i ∧ i < (l.length : Int) then strP 0 (rd_T45 l i).f1 else 0
theorem strAt_val (l : List S45) (h : okRules l) (a i : Int) : Ev (fun k => order_orderer_strength.f k l a i) (strAt l i) ∧ Ev (fun k => intarsiaref26_strength.f k l i) (strAt l i) := by
  by_cases h0 : i < 0
  · have e : strAt l i = 0 := by rw [strAt, if_neg (by omega)]
    rw [e]
    exact ⟨⟨0, fun k _ => by simp only [order_orderer_strength.f]; rw [if_pos h0]⟩, ⟨0, fun k _ => by simp only [intarsiaref26_strength.f]; rw [if_pos h0]⟩⟩
  · by_cases h1 : i ≥ (l.length : Int)
    · have e : strAt l i = 0 := by rw [strAt, if_neg (by omega)]
      rw [e]
      exact ⟨⟨0, fun k _ => by simp only [order_orderer_strength.f]; rw [if_neg h0, if_pos h1]⟩, ⟨0, fun k _ => by simp only [intarsiaref26_strength.f]; rw [if_neg h0, if_pos h1]⟩⟩
    · obtain ⟨n, rfl⟩ := Int.eq_ofNat_of_zero_le (show 0 ≤ i by omega)
      have hn : n < l.length := by omega
      have hr := h.2 l[n] (List.getElem_mem hn)
      have e : strAt l (n : Int) = strP 0 l[n].f1 := by rw [strAt, if_pos (by omega), rd45_at hn]
      have hv := str_val l[n].f0 l[n].f1 l[n].f2 hr.1 hr.2
      rw [e]
      constructor
      · refine Ev.congr (f := fun k => (order_Strength.f k l[n].f0 l[n].f1 l[n].f2).bind fun t => some t) (fun k => ?_) (Ev.bind hv.1 (Ev.now _))
        rw [order_orderer_strength.f, if_neg h0, if_neg h1, if_pos (by omega), if_pos (by omega), rd45_at hn]
      · refine Ev.congr (f := fun k => (intarsiaref26_Strength.f k l[n].f0 l[n].f1 l[n].f2).bind fun t => some t) (fun k => ?_) (Ev.bind hv.2 (Ev.now _))
        rw [intarsiaref26_strength.f, if_neg h0, if_neg h1, if_pos (by omega), if_pos (by omega), rd45_at hn]
end Go.Proofs.Ytjkdfjkaeoklmaa.Q

-- Made by this session's wip/tools/myprint.py (the kit's print.py, with this session's hooks) out of the translation; Lean checks it.
namespace Go.Proofs.Ytjkdfjkaeoklmaa.Q
open Go.RowKit Go.Proofs.YtjkdfjkaeoklmaaW.PrintWords Go.Proofs.YtjkdfjkaeoklmaaW.PrintLast Go.Proofs.YtjkdfjkaeoklmaaW.PrintMore
attribute [local go_sem] max2_int min2_int max_two min_two max_three min_three max_four min_four   -- for this text's walks alone
set_option linter.unusedVariables false
set_option linter.unusedSimpArgs false

/-! ### order_Less: function 9 -/
def order_Less.f (k : Nat) (l0 : List (S45)) (a1 : Int) (a2_0 : Int) (l2_1 : List Int) (a3_0 : Int) (l3_1 : List Int) : Option (Bool) := (order_orderer_compare.f k l0 a1 a2_0 l2_1 a3_0 l3_1).bind fun t297 => (some (decide (t297 < 0)))
set_option maxHeartbeats 8000000 in
set_option maxRecDepth 100000 in
theorem order_Less.calls (k : Nat) (A0 : Option Addr) (c0 : Nat) (l0 : List (S45)) (a1 : Int) (a2_0 : Int) (A2_1 : Option Addr) (c2_1 : Nat) (l2_1 : List Int) (a3_0 : Int) (A3_1 : Option Addr) (c3_1 : Nat) (l3_1 : List Int) (r : Bool) (w : World) (hr0 : Kd.C k45 w A0 l0.length l0) (hc0 : l0.length ≤ c0) (hr2_1 : Kd.C (Kd.int .i64) w A2_1 l2_1.length l2_1) (hc2_1 : l2_1.length ≤ c2_1) (hr3_1 : Kd.C (Kd.int .i64) w A3_1 l3_1.length l3_1) (hc3_1 : l3_1.length ≤ c3_1) (h : order_Less.f k l0 a1 a2_0 l2_1 a3_0 l3_1 = some r) :
  Calls Try.prog 9 #[.slice A0 l0.length c0, .int .u8 a1, .agg #[.int .i64 a2_0, .slice A2_1 l2_1.length c2_1], .agg #[.int .i64 a3_0, .slice A3_1 l3_1.length c3_1]] w fun e w' => e = .returned (.bool r) ∧ Below w.heap.size w w' := by
 have hu32 := Try.underlying32
 have hu53 := Try.underlying53
 have HR0 := Aside0.mk hr0
 have HC0 := Aside0.mk hc0
 clear hr0 hc0
 have HR2_1 := Aside0.mk hr2_1
 have HC2_1 := Aside0.mk hc2_1
 clear hr2_1 hc2_1
 have HR3_1 := Aside0.mk hr3_1
 have HC3_1 := Aside0.mk hc3_1
 clear hr3_1 hc3_1
 have HB := Aside0.mk (Below.refl w.heap.size w)
 have H : ((order_orderer_compare.f k l0 a1 a2_0 l2_1 a3_0 l3_1).bind fun t297 => (some (decide (t297 < 0)))) = some r := h
 clear h
 replace H := Option.bind_eq_some_iff.mp H
 obtain ⟨t297, A50, H⟩ := H
 replace H : (some (decide (t297 < 0))) = some r := H
 have A5 := Aside0.mk A50
 clear A50
 obtain rfl := Option.some.inj H
 go_enter Try.func9, Try.ntmps9
 go_wp2_with (first | ((with_reducible refine gate_dst (N := 6) rfl ?_); refine box_event ?hg (N := 6) ?hd (cs := #[.int .i64 a2_0, .slice A2_1 l2_1.length c2_1]) (t := 32) ?hr ?_; (case hd => rfl); (case hg => rfl); (case hr => first | (go_simp; done) | (go_simp; rfl)); intro gb295 hg w6 hbox hb; have n0_ := Aside0.mk (below_step (by repeat (first | (with_reducible first | exact HB.out | apply below_alloc | apply pw_below_drewN | apply below_drew1) | exact HB.out)) hb); have n1_ := Aside0.mk (hbox); have n2_ := Aside0.mk ((by rw [hg]; exact (below_size (by repeat (first | (with_reducible first | exact HB.out | apply below_alloc | apply pw_below_drewN | apply below_drew1) | exact HB.out))) : w.heap.size ≤ gb295)); have n3_ := Aside0.mk ((by rw [hg]; exact (below_size (by repeat (first | (with_reducible first | exact HB.out | apply below_alloc | apply pw_below_drewN | apply below_drew1) | exact HB.out))) : w.heap.size ≤ gb295)); clear HB; have HB := n0_; have BK295 := n1_; have GW295 := n2_; have GE295 := n3_; clear n0_ n1_ n2_ n3_; clear hb hbox hg) | ((with_reducible refine gate_dst (N := 7) rfl ?_); refine box_event ?hg (N := 7) ?hd (cs := #[.int .i64 a3_0, .slice A3_1 l3_1.length c3_1]) (t := 32) ?hr ?_; (case hd => rfl); (case hg => rfl); (case hr => first | (go_simp; done) | (go_simp; rfl)); intro gb296 hg w7 hbox hb; have n0_ := Aside0.mk (blk_below (g := gb295) (o := .cells #[.int .i64 a2_0, .slice A2_1 l2_1.length c2_1] 32 (0, 0)) (by (with_reducible repeat (first | refine blk_drewN ?_ _ | refine blk_drew ?_ | refine blk_alloc ?_ _)); exact BK295.out) hb); have n1_ := Aside0.mk (below_step (by repeat (first | (with_reducible first | exact HB.out | apply below_alloc | apply pw_below_drewN | apply below_drew1 | refine below_set ?_ GE295.out) | exact HB.out)) hb); have n2_ := Aside0.mk (hbox); have n3_ := Aside0.mk ((by rw [hg]; exact (below_size (by repeat (first | (with_reducible first | exact HB.out | apply below_alloc | apply pw_below_drewN | apply below_drew1 | refine below_set ?_ GE295.out) | exact HB.out))) : w.heap.size ≤ gb296)); have n4_ := Aside0.mk ((by rw [hg]; exact (below_size (by repeat (first | (with_reducible first | exact HB.out | apply below_alloc | apply pw_below_drewN | apply below_drew1 | refine below_set ?_ GE295.out) | exact HB.out))) : w.heap.size ≤ gb296)); have n5_ := Aside0.mk ((by rw [hg]; exact Nat.ne_of_lt (blk_lt (g := gb295) (o := .cells #[.int .i64 a2_0, .slice A2_1 l2_1.length c2_1] 32 (0, 0)) (by (with_reducible repeat (first | refine blk_drewN ?_ _ | refine blk_drew ?_ | refine blk_alloc ?_ _)); exact BK295.out)) : gb295 ≠ gb296)); have n6_ := Aside0.mk ((by rw [hg]; exact Nat.ne_of_gt (blk_lt (g := gb295) (o := .cells #[.int .i64 a2_0, .slice A2_1 l2_1.length c2_1] 32 (0, 0)) (by (with_reducible repeat (first | refine blk_drewN ?_ _ | refine blk_drew ?_ | refine blk_alloc ?_ _)); exact BK295.out)) : gb296 ≠ gb295)); clear BK295; clear HB; have BK295 := n0_; have HB := n1_; have BK296 := n2_; have GW296 := n3_; have GE296 := n4_; have NB295_296 := n5_; have NB296_295 := n6_; clear n0_ n1_ n2_ n3_ n4_ n5_ n6_; clear hb hbox hg; have hnb8 := NB295_296.out; have hnc8 := NB296_295.out; have hcz9_0 : w7.cell? ⟨gb295, 0, none⟩ = some (.int .i64 a2_0) := (blk_cell BK295.out 0).trans rfl; have hcz9_1 : w7.cell? ⟨gb295, 1, none⟩ = some (.slice A2_1 l2_1.length c2_1) := (blk_cell BK295.out 1).trans rfl; have hfz9_0 := blk_frozen BK295.out 0; have hfz9_1 := blk_frozen BK295.out 1; have hcz10_0 : w7.cell? ⟨gb296, 0, none⟩ = some (.int .i64 a3_0) := (blk_cell BK296.out 0).trans rfl; have hcz10_1 : w7.cell? ⟨gb296, 1, none⟩ = some (.slice A3_1 l3_1.length c3_1) := (blk_cell BK296.out 1).trans rfl; have hfz10_0 := blk_frozen BK296.out 0; have hfz10_1 := blk_frozen BK296.out 1) | ((with_reducible refine gate_callee (f := 24) rfl ?_); refine goesL_ (some 14) rfl rfl Try.func24 (by kernel_rfl) rfl #[.agg #[.slice A0 l0.length c0, .int .u8 a1], .agg #[.int .i64 a2_0, .slice A2_1 l2_1.length c2_1], .agg #[.int .i64 a3_0, .slice A3_1 l3_1.length c3_1]] rfl (by (try simp only [List.map_toArray, List.map_cons, List.map_nil]); first | done | rfl | (simp only [List.length_drop, List.length_take]; rfl)) ?_; (with_reducible refine (order_orderer_compare.calls k _ _ l0 a1 a2_0 _ _ l2_1 a3_0 _ _ l3_1 t297 _ ?side1 ?side2 ?side3 ?side4 ?side5 ?side6 A5.out).mono ?_); (case side1 => repeat (first | exact (Kd.C_below HR0.out HB.out) | (with_reducible refine Kd.C_alloc ?_ _) | (with_reducible refine Kd.C_drewN ?_ _) | (with_reducible refine Kd.C_drew ?_))); (case side2 => exact HC0.out); (case side3 => repeat (first | exact (Kd.C_below HR2_1.out HB.out) | (with_reducible refine Kd.C_alloc ?_ _) | (with_reducible refine Kd.C_drewN ?_ _) | (with_reducible refine Kd.C_drew ?_))); (case side4 => exact HC2_1.out); (case side5 => repeat (first | exact (Kd.C_below HR3_1.out HB.out) | (with_reducible refine Kd.C_alloc ?_ _) | (with_reducible refine Kd.C_drewN ?_ _) | (with_reducible refine Kd.C_drew ?_))); (case side6 => exact HC3_1.out); rintro e w11 ⟨rfl, hb⟩; refine ⟨_, rfl, ?_⟩; have n0_ := Aside0.mk (blk_below (g := gb295) (o := .cells #[.int .i64 a2_0, .slice A2_1 l2_1.length c2_1] 32 (0, 0)) (by (with_reducible repeat (first | refine blk_drewN ?_ _ | refine blk_drew ?_ | refine blk_alloc ?_ _)); exact BK295.out) hb); have n1_ := Aside0.mk (blk_below (g := gb296) (o := .cells #[.int .i64 a3_0, .slice A3_1 l3_1.length c3_1] 32 (0, 0)) (by (with_reducible repeat (first | refine blk_drewN ?_ _ | refine blk_drew ?_ | refine blk_alloc ?_ _)); exact BK296.out) hb); have n2_ := Aside0.mk (below_step (by repeat (first | (with_reducible first | exact HB.out | apply below_alloc | apply pw_below_drewN | apply below_drew1 | refine below_set ?_ GE295.out | refine below_set ?_ GE296.out) | exact HB.out)) hb); clear BK295; clear BK296; clear HB; have BK295 := n0_; have BK296 := n1_; have HB := n2_; clear n0_ n1_ n2_; (try clear hb); (try clear hb2); (try clear hk); (try clear hi)))
 go_ret
 exact ⟨by first | rfl | (simp [errW_none, errW_some] <;> rfl) | (simp [*, errW_none, errW_some] <;> rfl), by repeat (first | (with_reducible first | exact HB.out | apply below_alloc | apply pw_below_drewN | apply below_drew1 | refine below_set ?_ GE295.out | refine below_set ?_ GE296.out) | exact HB.out)⟩

end Go.Proofs.Ytjkdfjkaeoklmaa.Q
namespace Go.Proofs.Ytjkdfjkaeoklmaa.Q
open Go.RowKit Go.Proofs.YtjkdfjkaeoklmaaW.PrintWords Go.Proofs.YtjkdfjkaeoklmaaW.PrintLast Go.Proofs.YtjkdfjkaeoklmaaW.PrintMore
set_option linter.unusedVariables false
set_option linter.unusedSimpArgs false
theorem cmpI_anti (a b : Int) : cmpI a b = - cmpI b a := by unfold cmpI; split <;> split <;> (try split) <;> (try split) <;> omega
theorem cmpI_zero (a b : Int) : cmpI a b = 0 ↔ a = b := by unfold cmpI; split <;> (try split) <;> omega
theorem cmpL_anti : ∀ (l m : List Int), cmpL l m = - cmpL m l
  | [], [] => rfl
  | [], _ :: _ => rfl
  | _ :: _, [] => rfl
  | x :: l, y :: m => by
    rw [cmpL, cmpL, cmpL_anti l m, cmpI_anti x y]
    by_cases h : cmpI y x = 0
    · rw [if_pos h, if_pos (by omega)]
    · rw [if_neg h, if_neg (by omega)]
theorem cmpL_zero : ∀ (l m : List Int), cmpL l m = 0 ↔ l = m
  | [], [] => by simp [cmpL]
  | [], _ :: _ => by simp [cmpL]
  | _ :: _, [] => by simp [cmpL]
  | x :: l, y :: m => by
    rw [cmpL]
    by_cases h : cmpI x y = 0
    · rw [if_pos h, cmpL_zero l m]
      have := (cmpI_zero x y).1 h
      simp [this]
    · rw [if_neg h]
      have : ¬ x = y := fun e => h ((cmpI_zero x y).2 e)
      simp [h, this]
/-- How two instantiations stand. -/
def compareP (l0 : List S45) (how : Int) (x y : S32) : Int :=
  orP [if how = 1 then cmpI (firstP y.f1) (firstP x.f1) else 0, cmpL (recency y.f1) (recency x.f1), cmpI (strAt l0 y.f0) (strAt l0 x.f0), cmpI x.f0 y.f0, cmpL x.f1 y.f1]
def lessP (l0 : List S45) (how : Int) (x y : S32) : Bool := decide (compareP l0 how x y < 0)
theorem recency_le (l : List Int) (h : l.length ≤ 12) : (recency l).length ≤ 12 := Nat.le_trans (recency_len l) h
theorem compare_val (l0 : List S45) (h0 : okRules l0) (how : Int) (x y : S32) (hx : x.f1.length ≤ 12) (hy : y.f1.length ≤ 12) : Ev (fun k => order_orderer_compare.f k l0 how x.f0 x.f1 y.f0 y.f1) (compareP l0 how x y) := by
  have hj : ∀ mea : Int, Ev (fun k => order_orderer_compare.j0 k mea l0 how x.f0 x.f1 y.f0 y.f1) (orP [mea, cmpL (recency y.f1) (recency x.f1), cmpI (strAt l0 y.f0) (strAt l0 x.f0), cmpI x.f0 y.f0, cmpL x.f1 y.f1]) := by
    intro mea
    refine Ev.step (fun k => by simp only [order_orderer_compare.j0]; rfl) ?_
    refine Ev.bind (a := recency y.f1) ⟨0, fun k _ => by simp only [order_Recency.f]; rw [if_pos hy]⟩ ?_
    refine Ev.bind (a := recency x.f1) ⟨0, fun k _ => by simp only [order_Recency.f]; rw [if_pos hx]⟩ ?_
    refine Ev.bind (cmpL_val _ _ (by have := recency_le _ hy; omega)) ?_
    refine Ev.bind (strAt_val l0 h0 how y.f0).1 ?_
    refine Ev.bind (strAt_val l0 h0 how x.f0).1 ?_
    refine Ev.bind (a := cmpI (strAt l0 y.f0) (strAt l0 x.f0)) ⟨0, fun k _ => cmpI_val _ _⟩ ?_
    refine Ev.bind (a := cmpI x.f0 y.f0) ⟨0, fun k _ => cmpI_val _ _⟩ ?_
    refine Ev.bind (cmpL_val _ _ (by omega)) ?_
    refine Ev.bind (orP_val _ (by simp)) ?_
    exact Ev.now _
  unfold compareP
  by_cases h1 : how = 1
  · refine Ev.congr (f := fun k => order_orderer_compare.j0 k (cmpI (firstP y.f1) (firstP x.f1)) l0 how x.f0 x.f1 y.f0 y.f1) (fun k => ?_) (by rw [if_pos h1]; exact hj _)
    rw [order_orderer_compare.f, if_pos h1, (first_val _ _).1, (first_val _ _).1, Option.bind_some, Option.bind_some, cmpI_val, Option.bind_some]
  · refine Ev.congr (f := fun k => order_orderer_compare.j0 k 0 l0 how x.f0 x.f1 y.f0 y.f1) (fun k => ?_) (by rw [if_neg h1]; exact hj _)
    rw [order_orderer_compare.f, if_neg h1]
theorem less_o_val (l0 : List S45) (h0 : okRules l0) (how : Int) (x y : S32) (hx : x.f1.length ≤ 12) (hy : y.f1.length ≤ 12) : Ev (fun k => order_Less.f k l0 how x.f0 x.f1 y.f0 y.f1) (lessP l0 how x y) := by
  refine Ev.congr (f := fun k => (order_orderer_compare.f k l0 how x.f0 x.f1 y.f0 y.f1).bind fun t => some (decide (t < 0))) (fun k => by rw [order_Less.f]) ?_
  exact Ev.bind (compare_val l0 h0 how x y hx hy) (Ev.now _)
end Go.Proofs.Ytjkdfjkaeoklmaa.Q
namespace Go.Proofs.Ytjkdfjkaeoklmaa.Q
open Go.RowKit Go.Proofs.YtjkdfjkaeoklmaaW.PrintWords
set_option linter.unusedVariables false
set_option linter.unusedSimpArgs false
/-- A comparison that goes on. -/
structure Good {α : Type} (c : α → α → Int) : Prop where
  anti : ∀ x y, c x y = - c y x
  trans : ∀ x y z, c x y ≤ 0 → c y z ≤ 0 → c x z ≤ 0 ∧ (c x z = 0 → c x y = 0 ∧ c y z = 0)
theorem cmpI_cases (a b : Int) : (cmpI a b = -1 ∧ a < b) ∨ (cmpI a b = 0 ∧ a = b) ∨ (cmpI a b = 1 ∧ a > b) := by
  unfold cmpI
  split
  · left; exact ⟨rfl, by assumption⟩
  · split
    · right; right; exact ⟨rfl, by assumption⟩
    · right; left; exact ⟨rfl, by omega⟩
theorem good_cmpI : Good cmpI := ⟨cmpI_anti, fun x y z h1 h2 => by
  rcases cmpI_cases x y with h | h | h <;> rcases cmpI_cases y z with g | g | g <;> rcases cmpI_cases x z with e | e | e <;> omega⟩
theorem good_cmpL : Good cmpL := ⟨cmpL_anti, fun l => by
  induction l with
  | nil =>
    intro m n h1 h2
    cases m <;> cases n <;> simp_all [cmpL]
  | cons x l ih =>
    intro m n h1 h2
    cases m with
    | nil => simp [cmpL] at h1
    | cons y m =>
      cases n with
      | nil => simp [cmpL] at h2
      | cons z n =>
        have g := good_cmpI.trans x y z
        simp only [cmpL] at h1 h2 ⊢
        by_cases a : cmpI x y = 0
        · rw [if_pos a] at h1 ⊢
          by_cases b : cmpI y z = 0
          · rw [if_pos b] at h2 ⊢
            have e : cmpI x z = 0 := by
              have := (cmpI_zero x y).1 a; have := (cmpI_zero y z).1 b; exact (cmpI_zero x z).2 (by omega)
            rw [if_pos e]
            exact ih m n h1 h2
          · rw [if_neg b] at h2 ⊢
            have := g (by omega) h2
            have e : cmpI x z ≠ 0 := fun h => b (this.2 h).2
            rw [if_neg e]
            exact ⟨this.1, fun h => absurd h e⟩
        · rw [if_neg a] at h1 ⊢
          have h3 : cmpI y z ≤ 0 := by
            by_cases b : cmpI y z = 0
            · omega
            · rw [if_neg b] at h2; exact h2
          have := g h1 h3
          have e : cmpI x z ≠ 0 := fun h => a (this.2 h).1
          rw [if_neg e]
          exact ⟨this.1, fun h => absurd h e⟩⟩
theorem Good.key {α β : Type} {c : α → α → Int} (h : Good c) (f : β → α) : Good (fun x y => c (f x) (f y)) := ⟨fun _ _ => h.anti _ _, fun _ _ _ => h.trans _ _ _⟩
theorem Good.flip {α : Type} {c : α → α → Int} (h : Good c) : Good (fun x y => c y x) := ⟨fun _ _ => h.anti _ _, fun x y z h1 h2 => by
  have := h.trans z y x h2 h1
  exact ⟨this.1, fun e => ⟨(this.2 e).2, (this.2 e).1⟩⟩⟩
theorem good_zero {α : Type} : Good (fun _ _ : α => (0 : Int)) := ⟨fun _ _ => rfl, fun _ _ _ _ _ => ⟨Int.le_refl _, fun _ => ⟨rfl, rfl⟩⟩⟩
theorem Good.lex {α : Type} {c d : α → α → Int} (hc : Good c) (hd : Good d) : Good (fun x y => if c x y = 0 then d x y else c x y) := by
  refine ⟨fun x y => ?_, fun x y z h1 h2 => ?_⟩
  · have := hc.anti x y; have := hd.anti x y
    by_cases h : c y x = 0
    · rw [if_pos (by omega), if_pos h]; omega
    · rw [if_neg (by omega), if_neg h]; omega
  · have hxy : c x y ≤ 0 := by
      by_cases h : c x y = 0
      · omega
      · rw [if_neg h] at h1; exact h1
    have hyz : c y z ≤ 0 := by
      by_cases h : c y z = 0
      · omega
      · rw [if_neg h] at h2; exact h2
    have t := hc.trans x y z hxy hyz
    by_cases e : c x z = 0
    · obtain ⟨e1, e2⟩ := t.2 e
      rw [if_pos e1] at h1 ⊢
      rw [if_pos e2] at h2 ⊢
      rw [if_pos e]
      exact hd.trans x y z h1 h2
    · rw [if_neg e]
      exact ⟨t.1, fun h => absurd h e⟩
theorem good_compareP (l0 : List S45) (how : Int) : Good (compareP l0 how) := by
  have h5 : Good (fun x y : S32 => orP [cmpL x.f1 y.f1]) := (good_cmpL.key S32.f1).lex good_zero
  have h4 : Good (fun x y : S32 => orP [cmpI x.f0 y.f0, cmpL x.f1 y.f1]) := (good_cmpI.key S32.f0).lex h5
  have h3 : Good (fun x y : S32 => orP [cmpI (strAt l0 y.f0) (strAt l0 x.f0), cmpI x.f0 y.f0, cmpL x.f1 y.f1]) := ((good_cmpI.key (fun x : S32 => strAt l0 x.f0)).flip).lex h4
  have h2 : Good (fun x y : S32 => orP [cmpL (recency y.f1) (recency x.f1), cmpI (strAt l0 y.f0) (strAt l0 x.f0), cmpI x.f0 y.f0, cmpL x.f1 y.f1]) := ((good_cmpL.key (fun x : S32 => recency x.f1)).flip).lex h3
  by_cases h : how = 1
  · have h1 : Good (fun x y : S32 => if how = 1 then cmpI (firstP y.f1) (firstP x.f1) else 0) := by
      simp only [h, if_true]
      exact (good_cmpI.key (fun x : S32 => firstP x.f1)).flip
    exact h1.lex h2
  · have h1 : Good (fun x y : S32 => if how = 1 then cmpI (firstP y.f1) (firstP x.f1) else 0) := by
      simp only [h, if_false]
      exact good_zero
    exact h1.lex h2
theorem orP_zero : ∀ (l : List Int), orP l = 0 → ∀ a ∈ l, a = 0
  | [], _, _, h => by cases h
  | x :: l, h, a, ha => by
    rw [orP] at h
    split at h
    · rename_i hx
      rcases List.mem_cons.1 ha with rfl | ha
      · exact hx
      · exact orP_zero l h a ha
    · rename_i hx; exact absurd h hx
theorem compareP_zero (l0 : List S45) (how : Int) (x y : S32) : compareP l0 how x y = 0 ↔ x = y := by
  constructor
  · intro h
    have h4 := orP_zero _ h (cmpI x.f0 y.f0) (by simp)
    have h5 := orP_zero _ h (cmpL x.f1 y.f1) (by simp)
    obtain ⟨a, b⟩ := x
    obtain ⟨c, d⟩ := y
    have e1 := (cmpI_zero _ _).1 h4
    have e2 := (cmpL_zero _ _).1 h5
    simp only at e1 e2
    rw [e1, e2]
  · rintro rfl
    have := (good_compareP l0 how).anti x x
    omega
theorem lessP_irr (l0 : List S45) (how : Int) (x : S32) : lessP l0 how x x = false := by
  unfold lessP
  rw [(compareP_zero l0 how x x).2 rfl]
  rfl
theorem lessP_tri (l0 : List S45) (how : Int) (x y : S32) (h : x ≠ y) : lessP l0 how x y = !lessP l0 how y x := by
  have h1 : compareP l0 how x y ≠ 0 := fun e => h ((compareP_zero l0 how x y).1 e)
  have h2 := (good_compareP l0 how).anti x y
  unfold lessP
  by_cases h3 : compareP l0 how x y < 0
  · rw [decide_eq_true h3, decide_eq_false (by omega)]; rfl
  · rw [decide_eq_false h3, decide_eq_true (by omega)]; rfl
theorem lessP_trans (l0 : List S45) (how : Int) (x y z : S32) (h1 : lessP l0 how x y = true) (h2 : lessP l0 how y z = true) : lessP l0 how x z = true := by
  have a := of_decide_eq_true h1
  have b := of_decide_eq_true h2
  have t := (good_compareP l0 how).trans x y z (by omega) (by omega)
  refine decide_eq_true ?_
  have : compareP l0 how x z ≠ 0 := fun e => by have := (t.2 e).1; omega
  have := t.1
  omega
end Go.Proofs.Ytjkdfjkaeoklmaa.Q

namespace Go.Proofs.Ytjkdfjkaeoklmaa.Q
open Go.RowKit Go.Proofs.YtjkdfjkaeoklmaaW.PrintWords Go.Proofs.YtjkdfjkaeoklmaaW.PrintLast Go.Proofs.YtjkdfjkaeoklmaaW.PrintMore
set_option linter.unusedVariables false
set_option linter.unusedSimpArgs false
/-- The least of some, by the comparison; each is held against the least so far. -/
def minL (k : Nat) (l0 : List S45) (a1 : Int) : S32 → List S32 → Option S32
  | m, [] => some m
  | m, x :: r => (order_orderer_compare.f k l0 a1 x.f0 x.f1 m.f0 m.f1).bind fun t => if t < 0 then minL k l0 a1 x r else minL k l0 a1 m r
theorem minL.mono (l0 : List S45) (a1 : Int) (k : Nat) : ∀ (r : List S32) (m : S32), LeO (minL k l0 a1 m r) (minL (k + 1) l0 a1 m r)
  | [], m => LeO.refl _
  | x :: r, m => LeO.bind (order_orderer_compare.mono _ _ _ _ _ _ k) (fun t => LeO.ite (minL.mono l0 a1 k r x) (minL.mono l0 a1 k r m))

/-- An element of two cells, of whatever kind that reads as an instantiation. -/
theorem elem32 {d : Kd S32} {A : Option Addr} {l : List S32} {W : World} (hx : Kd.C d W A l.length l) (hsz : d.sz = 2) (hd : ∀ y cs, d.K W y cs → k32.K W y cs) (i : Nat) (hi : i < l.length) :
    ∃ ad At ct, A = some ad ∧ d.K W l[i] [.int .i64 l[i].f0, .slice At l[i].f1.length ct] ∧ l[i].f1.length ≤ ct ∧ (Kd.int .i64).C W At l[i].f1.length l[i].f1 ∧ W.cell? (ad.add (i * 2)) = some (.int .i64 l[i].f0) ∧ W.cell? ⟨(ad.add (i * 2)).block, (ad.add (i * 2)).off + 1, none⟩ = some (.slice At l[i].f1.length ct) := by
  obtain ⟨ad, cs, e, hcl, hK, hc⟩ := Kd.C_get hx z32 (i : Int) (by omega) (by omega)
  rw [Int.toNat_natCast, List.getD_eq_getElem?_getD, List.getElem?_eq_getElem hi] at hK
  rw [Int.toNat_natCast, hsz] at hc
  obtain ⟨At, ct, hcs, hlt, hC⟩ := k32_open (hd _ _ hK)
  rw [hcs] at hK hc
  exact ⟨ad, At, ct, e, hK, hlt, hC, hc 0 _ rfl, by rw [← add_field _ _ 1 (by omega)]; exact hc 1 _ rfl⟩

set_option maxHeartbeats 2000000 in
set_option maxRecDepth 100000 in
theorem min39 (k : Nat) (A0 : Option Addr) (c0 : Nat) (l0 : List S45) (a1 : Int) (d : Kd S32) (A : Option Addr) (c : Nat) (l : List S32) (m : S32) (W : World)
    (hr0 : Kd.C k45 W A0 l0.length l0) (hc0 : l0.length ≤ c0) (hx : Kd.C d W A l.length l) (hxc : l.length ≤ c) (hsz : d.sz = 2) (hl : 0 < l.length)
    (hd : ∀ y cs, d.K W y cs → k32.K W y cs) (h : minL k l0 a1 l[0] (l.drop 1) = some m) :
    Calls Try.prog 39 #[.slice A l.length c, .func (.func 24) #[.agg #[.slice A0 l0.length c0, .int .u8 a1]] #[]] W fun e w' => ∃ cs, e = .returned (.agg cs.toArray) ∧ d.K W m cs ∧ Below W.heap.size W w' := by
  have HR := Aside0.mk hr0
  have HX := Aside0.mk hx
  have HD := Aside0.mk hd
  have H := Aside0.mk h
  have hm : l.length ≤ 9223372036854775807 := hx.2.1
  clear hr0 hx hd h
  obtain ⟨ad, At0, ct0, rfl, hK0, hlt0, hC0, hc00, hc01⟩ := elem32 HX.out hsz HD.out 0 hl
  rw [Nat.zero_mul, show ad.add 0 = ad from by simp [Addr.add]] at hc00 hc01
  have HC0 := Aside0.mk (And.intro hK0 (And.intro hlt0 hC0))
  clear hK0 hlt0 hC0
  have hn1 : ¬ ((l.length : Int) < 1) := by omega
  have hu32 := Try.underlying32
  have hn0 : (0 : Int) < (l.length : Int) := by omega
  have HL := Aside0.mk (And.intro hc00 hc01)
  clear hc00 hc01
  go_enter Try.func39, Try.ntmps39
  go_wp2_with (first
    | ((with_reducible refine gate_dst (N := 4) rfl ?_)
       refine box_event ?hg (N := 4) ?hd (cs := #[.int .i64 0, .slice none 0 0]) (t := 32) ?hr ?_
       (case hd => rfl)
       (case hg => rfl)
       (case hr => first | (go_simp; done) | (go_simp; rfl))
       intro g4 hg4 w4 hbox4 hb4
       have hc00 : w4.cell? ad = _ := (hb4.cell (World.block_lt_of_cell? _ _ HL.out.1)).trans HL.out.1
       have hc01 : w4.cell? ⟨ad.block, ad.off + 1, none⟩ = _ := (hb4.cell (World.block_lt_of_cell? _ _ HL.out.2)).trans HL.out.2
       have BK4 := Aside0.mk (And.intro hg4 (And.intro hbox4 hb4))
       clear hg4 hbox4 hb4)
    | ((with_reducible refine gate_dst (N := 5) rfl ?_)
       refine box_event ?hg (N := 5) ?hd (cs := #[.int .i64 0, .slice none 0 0]) (t := 32) ?hr ?_
       (case hd => rfl)
       (case hg => rfl)
       (case hr => first | (go_simp; done) | (go_simp; rfl))
       intro g5 hg5 w5 hbox5 hb5
       have hcz_0 : w5.cell? ⟨g5, 0, none⟩ = some (.int .i64 0) := (blk_cell hbox5 0).trans rfl
       have hcz_1 : w5.cell? ⟨g5, 1, none⟩ = some (.slice none 0 0) := (blk_cell hbox5 1).trans rfl
       have hfz_0 := blk_frozen hbox5 0
       have hfz_1 := blk_frozen hbox5 1
       have BK5 := Aside0.mk (And.intro hg5 (And.intro hbox5 hb5))
       clear hg5 hbox5 hb5))
  have hg45 : g4 < g5 := by
    have h1 := BK5.out.1
    have h2 := blk_lt BK4.out.2.1
    omega
  have hw4 : W.heap.size ≤ g4 := Nat.le_of_eq BK4.out.1.symm
  have HB5 := Aside0.mk (show Below W.heap.size W w5 from below_step BK4.out.2.2 BK5.out.2.2)
  have hgn1 : g4 ≠ g5 := by omega
  have hgn2 : g5 ≠ g4 := by omega
  clear hcz_0 hcz_1 hfz_0 hfz_1 hc00 hc01
  go_loopw [6] (fun v6 wr => ∃ (i : Nat) (mm : S32) (Am : Option Addr) (cm : Nat), v6 = .int .i64 i ∧ 1 ≤ i ∧ i ≤ l.length ∧ Aside0 (wr.heap[g5]? = some (.cells #[.int .i64 mm.f0, .slice Am mm.f1.length cm] 32 (0, 0))) ∧ Aside0 (d.K W mm [.int .i64 mm.f0, .slice Am mm.f1.length cm] ∧ mm.f1.length ≤ cm ∧ (Kd.int .i64).C W Am mm.f1.length mm.f1) ∧ Aside0 (minL k l0 a1 mm (l.drop i) = some m) ∧ Aside0 (Below W.heap.size W wr) ∧ Aside0 (wr.heap[g4]? = some (.cells #[.int .i64 0, .slice none 0 0] 32 (0, 0)))) (fun v6 _ => l.length - (intOf v6).toNat)
  case atStart =>
    refine ⟨1, l[0], At0, ct0, by go_num, Nat.le_refl _, hl, ⟨?_⟩, HC0, H, ⟨?_⟩, ⟨?_⟩⟩
    · exact blk_put (blk_put BK5.out.2.1 0 _ rfl) 1 _ rfl
    · exact below_set (below_set HB5.out (by omega)) (by omega)
    · exact blk_far (blk_far (blk_below BK4.out.2.1 BK5.out.2.2) hgn1 _) hgn1 _
  case round =>
    obtain ⟨i, mm, Am, cm, rfl, hi1, hil, HM, HK, H, HB, HG⟩ := hrel
    by_cases hlt : i < l.length
    · obtain ⟨ad', Ati, cti, e', hKi, hlti, hCi, hci0, hci1⟩ := elem32 HX.out hsz HD.out i hlt
      injection e' with e'
      subst e'
      have HCi := Aside0.mk (And.intro hKi (And.intro hlti hCi))
      clear hKi hlti hCi
      have q1 : (i : Int) < (l.length : Int) := by omega
      have q2 : (0 : Int) ≤ (i : Int) := by omega
      replace hci0 := (HB.out.cell (World.block_lt_of_cell? _ _ hci0)).trans hci0
      replace hci1 := (HB.out.cell (World.block_lt_of_cell? _ _ hci1)).trans hci1
      have hm0 : wr.cell? ⟨g5, 0, none⟩ = some (.int .i64 mm.f0) := (blk_cell HM.out 0).trans rfl
      have hm1 : wr.cell? ⟨g5, 1, none⟩ = some (.slice Am mm.f1.length cm) := (blk_cell HM.out 1).trans rfl
      have hf0 := blk_frozen HM.out 0
      have hf1 := blk_frozen HM.out 1
      have hH := H.out
      rw [List.drop_eq_getElem_cons hlt, minL] at hH
      obtain ⟨t, ht, hH2⟩ := Option.bind_eq_some_iff.1 hH
      have HT := Aside0.mk ht
      have H2 := Aside0.mk hH2
      clear ht hH hH2
      have hlb := World.block_lt_of_cell? _ _ hci0
      have hlb1 := World.block_lt_of_cell? _ _ hci1
      go_wp2_with fail
      go_region_with (
        refine (order_orderer_compare.calls k _ _ l0 a1 _ _ _ _ _ _ _ _ t _ ?s1 ?s2 ?s3 ?s4 ?s5 ?s6 HT.out).mono ?_
        (case s1 => repeat (first | exact Kd.C_below HR.out HB.out | apply Kd.C_drew))
        (case s2 => exact hc0)
        (case s3 => repeat (first | exact Kd.C_below HCi.out.2.2 HB.out | apply Kd.C_drew))
        (case s4 => exact HCi.out.2.1)
        (case s5 => repeat (first | exact Kd.C_below HK.out.2.2 HB.out | apply Kd.C_drew))
        (case s6 => exact HK.out.2.1)
        rintro e w' ⟨rfl, hb⟩
        have HBW := Aside0.mk hb
        clear hb
        go_simp)
      all_goals
        have HBC := Aside0.mk (show Below W.heap.size W w' from below_step HB.out (Below.trans (below_drew (Below.refl wr.heap.size wr)) HBW.out))
        have hb1 : Below wr.heap.size wr w' := Below.trans (below_drew (Below.refl wr.heap.size wr)) HBW.out
        have hk5 := blk_below HM.out hb1
        have hk4 := blk_below HG.out hb1
        replace hci0 := (hb1.cell hlb).trans hci0
        replace hci1 := (hb1.cell (World.block_lt_of_cell? _ _ hci1)).trans hci1
        clear hb1 hm0 hm1 hf0 hf1
        have hm0 : w'.cell? ⟨g5, 0, none⟩ = some (.int .i64 mm.f0) := (blk_cell hk5 0).trans rfl
        have hm1 : w'.cell? ⟨g5, 1, none⟩ = some (.slice Am mm.f1.length cm) := (blk_cell hk5 1).trans rfl
        have hf0 := blk_frozen hk5 0
        have hf1 := blk_frozen hk5 1
        have HK5 := Aside0.mk hk5
        have HK4 := Aside0.mk hk4
        clear hk5 hk4
        by_cases ht : t < 0
        · have H3 := H2.out
          rw [if_pos ht] at H3
          have H4 := Aside0.mk H3
          clear H3
          go_wp2_with fail
          go_roundw
          case rel => exact ⟨i + 1, l[i], Ati, cti, by go_num, by omega, by omega, ⟨blk_put (blk_put HK5.out 0 _ rfl) 1 _ rfl⟩, HCi, H4, ⟨below_set (below_set HBC.out (by omega)) (by omega)⟩, ⟨blk_far (blk_far HK4.out hgn1 _) hgn1 _⟩⟩
          case measure => simp [intOf]; omega
        · have H3 := H2.out
          rw [if_neg ht] at H3
          have H4 := Aside0.mk H3
          clear H3
          go_wp2_with fail
          go_roundw
          case rel => exact ⟨i + 1, mm, Am, cm, by go_num, by omega, by omega, HK5, HK, H4, HBC, HK4⟩
          case measure => simp [intOf]; omega
    · obtain rfl : i = l.length := by omega
      have hm0 : wr.cell? ⟨g5, 0, none⟩ = some (.int .i64 mm.f0) := (blk_cell HM.out 0).trans rfl
      have hm1 : wr.cell? ⟨g5, 1, none⟩ = some (.slice Am mm.f1.length cm) := (blk_cell HM.out 1).trans rfl
      have hn0 : wr.cell? ⟨g4, 0, none⟩ = some (.int .i64 0) := (blk_cell HG.out 0).trans rfl
      have hn1 : wr.cell? ⟨g4, 1, none⟩ = some (.slice none 0 0) := (blk_cell HG.out 1).trans rfl
      have hf0 := blk_frozen HG.out 0
      have hf1 := blk_frozen HG.out 1
      go_wp2_with fail
      refine bodyPost_ret (results_single rfl (.cell g4 32 #[.int .i64 mm.f0, .slice Am mm.f1.length cm] (0, 0) _ rfl (blk_put (blk_put HG.out 0 _ rfl) 1 _ rfl) Try.underlying32 rfl (by kernel_rfl) .nil)) rfl ?_
      have e : mm = m := by
        have h := H.out
        rw [List.drop_length, minL] at h
        exact Option.some.inj h
      subst e
      exact ⟨_, rfl, HK.out.1, below_set (below_set HB.out hw4) hw4⟩
end Go.Proofs.Ytjkdfjkaeoklmaa.Q
namespace Go.Proofs.Ytjkdfjkaeoklmaa.Q
open Go.RowKit Go.Proofs.YtjkdfjkaeoklmaaW.PrintWords Go.Proofs.YtjkdfjkaeoklmaaW.PrintLast Go.Proofs.YtjkdfjkaeoklmaaW.PrintMore
set_option linter.unusedVariables false
set_option linter.unusedSimpArgs false
/-- The least of some instantiations; none of none. -/
def minOf (k : Nat) (l0 : List S45) (a1 : Int) : List S32 → Option (Int × List Int × Bool)
  | [] => some (0, [], false)
  | x :: r => (minL k l0 a1 x r).bind fun m => some (m.f0, m.f1, true)
def order_Select.f (k : Nat) (l0 : List S45) (a1 : Int) (l2 : List S38) : Option (Int × List Int × Bool) :=
  if l2.length < 4398046511104 then minOf k l0 a1 ((l2.filter fun x => !x.f1).map (·.f0)) else none
/-- An instantiation that is read, its tags' place told, in a world that is past. -/
def kF (w : World) (p : Nat → Prop) : Kd S32 where
  sz := 2
  E := []
  K := fun _ x cs => Kd.FK k32 w p x cs
  M := fun _ _ _ x cs => Kd.FK k32 w p x cs
  K_len := fun h => k32.K_len (Kd.FK_now h)
  K_one := fun h => k32.K_one (Kd.FK_now h)
  K_below := fun _ h => h
  K_of_M := fun h => h
  M_mono := fun _ h => h
  M_bound := fun h => h
  M_move := fun _ h => h
  M_lower := fun _ h => h
theorem elem38 {W : World} {base n c : Nat} {P : Nat → Prop} {A : Option Addr} {l : List S38} (h : Kd.V k38 38 W base P (.slice A n c) l) (i : Nat) (hi : i < l.length) :
    ∃ ad At ct, A = some ad ∧ Kd.FK k32 W P l[i].f0 [.int .i64 l[i].f0.f0, .slice At l[i].f0.f1.length ct] ∧ W.cell? (ad.add (i * 3)) = some (.int .i64 l[i].f0.f0) ∧ W.cell? ⟨(ad.add (i * 3)).block, (ad.add (i * 3)).off + 1, none⟩ = some (.slice At l[i].f0.f1.length ct) ∧ W.cell? ⟨(ad.add (i * 3)).block, (ad.add (i * 3)).off + 2, none⟩ = some (.bool l[i].f1) := by
  obtain ⟨hn, hc, hF⟩ := Kd.V_at h
  subst hn
  obtain ⟨ad, e, _⟩ := (Kd.F_now hF).2.2 (by omega)
  subst e
  obtain ⟨cs, hl, hK, hcc⟩ := Kd.V_get h z38 (i : Int) (by omega) (by omega)
  rw [Int.toNat_natCast, List.getD_eq_getElem?_getD, List.getElem?_eq_getElem hi] at hK
  rw [Int.toNat_natCast] at hcc
  obtain ⟨At, ct, hcs, hlt, hF2⟩ := k38_openF hK
  rw [hcs] at hcc
  exact ⟨ad, At, ct, rfl, k32_mkF W P _ hlt hF2, hcc 0 _ rfl, by rw [← add_field _ _ 1 (by omega)]; exact hcc 1 _ rfl, by rw [← add_field _ _ 2 (by omega)]; exact hcc 2 _ rfl⟩
theorem box32 {Rr : S32 → List Value → Prop} (W : World) (g : Nat) (hg : W.heap.size = g) (x : S32) (a b : Value) (h : Rr x [a, b]) : ReadsRow Rr 2 (W.alloc (.cells #[a, b] 32)) (some ⟨g, 0, none⟩) 1 [x] := by
  subst hg
  refine ⟨rfl, by omega, fun _ => ⟨_, rfl, fun j p hj => ?_⟩⟩
  match j, hj with
  | 0, hj =>
    obtain rfl := Option.some.inj hj
    refine ⟨[a, b], rfl, h, fun i u hu => ?_⟩
    rw [add_plain]
    match i, hu with
    | 0, hu => simpa using hu
    | 1, hu => simpa using hu

set_option maxHeartbeats 2000000 in
set_option maxRecDepth 100000 in
theorem order_Select.calls (k : Nat) (A0 : Option Addr) (c0 : Nat) (l0 : List (S45)) (a1 : Int) (P2_ : Nat → Prop) (A2 : Option Addr) (c2 : Nat) (l2 : List (S38)) (r1 : Int) (r2 : List Int) (r3 : Bool) (w : World) (hr0 : Kd.C k45 w A0 l0.length l0) (hc0 : l0.length ≤ c0) (hs2 : Kd.V k38 38 w w.heap.size (fun k_ => P2_ k_) (.slice A2 l2.length c2) l2) (h : order_Select.f k l0 a1 l2 = some (r1, r2, r3)) :
    Calls Try.prog 19 #[.slice A0 l0.length c0, .int .u8 a1, .slice A2 l2.length c2] w fun e w' => ∃ v1_ : Value, e = .returned (.tuple #[.agg #[.int .i64 r1, v1_], .bool r3]) ∧ Kd.V (Kd.int .i64) 3 w' w.heap.size (fun k_ => (P2_ k_ ∨ w.heap.size ≤ k_)) v1_ r2 ∧ Below w.heap.size w w' := by
  unfold order_Select.f at h
  have hbig : l2.length < 4398046511104 := by
    by_cases hb : l2.length < 4398046511104
    · exact hb
    · rw [if_neg hb] at h; cases h
  rw [if_pos hbig] at h
  have HR := Aside0.mk hr0
  have HS := Aside0.mk hs2
  have H := Aside0.mk h
  clear hr0 hs2 h
  go_enter Try.func19, Try.ntmps19
  go_wp2_with (first
    | ((with_reducible refine gate_dst (N := 6) rfl ?_)
       refine box_event ?hg (N := 6) ?hd (cs := #[.int .i64 0, .slice none 0 0]) (t := 32) ?hr ?_
       (case hd => rfl)
       (case hg => rfl)
       (case hr => first | (go_simp; done) | (go_simp; rfl))
       intro g6 hg6 w6 hbox6 hb6
       have BK6 := Aside0.mk (And.intro hg6 (And.intro hbox6 hb6))
       clear hg6 hbox6 hb6))
  have hw6 : w.heap.size ≤ g6 := Nat.le_of_eq BK6.out.1.symm
  go_loopw [8, 10, 13] (fun v8 _ v13 wr => ∃ (i : Nat), v13 = .int .i64 i ∧ i ≤ l2.length ∧ Aside0 ((kF w P2_).R 32 wr w.heap.size (fun k => k ≠ g6) v8 (((l2.take i).filter fun x => !x.f1).map (·.f0))) ∧ Aside0 (Below w.heap.size w wr) ∧ Aside0 (wr.heap[g6]? = some (.cells #[.int .i64 0, .slice none 0 0] 32 (0, 0)))) (fun _ _ v13 _ => l2.length - (intOf v13).toNat)
  case atStart => exact ⟨0, rfl, Nat.zero_le _, ⟨by simpa using Kd.R_nil _ _ _ _ _⟩, ⟨BK6.out.2.2⟩, ⟨BK6.out.2.1⟩⟩
  case round =>
    obtain ⟨i, rfl, hi, HO, HB, HG⟩ := hrel
    by_cases hlt : i < l2.length
    · obtain ⟨ad, At, ct, rfl, hFK, hc0', hc1', hc2'⟩ := elem38 HS.out i hlt
      have HFK := Aside0.mk hFK
      clear hFK
      have q1 : (i : Int) < (l2.length : Int) := by omega
      have q2 : (0 : Int) ≤ (i : Int) := by omega
      replace hc0' := (HB.out.cell (World.block_lt_of_cell? _ _ hc0')).trans hc0'
      replace hc1' := (HB.out.cell (World.block_lt_of_cell? _ _ hc1')).trans hc1'
      replace hc2' := (HB.out.cell (World.block_lt_of_cell? _ _ hc2')).trans hc2'
      have htake : ((l2.take (i + 1)).filter fun x => !x.f1).map (·.f0) = ((l2.take i).filter fun x => !x.f1).map (·.f0) ++ (if l2[i].f1 then [] else [l2[i].f0]) := by
        rw [List.take_succ_eq_append_getElem hlt, List.filter_append, List.map_append]
        congr 1
        cases h : l2[i].f1 <;> simp [h]
      have HT := Aside0.mk htake
      clear htake
      have hlen : (((l2.take i).filter fun x => !x.f1).map (·.f0)).length ≤ l2.length := by
        rw [List.length_map]
        exact Nat.le_trans (List.length_filter_le _ _) (by rw [List.length_take]; omega)
      cases hf : l2[i].f1 with
      | true =>
        rw [hf] at hc2'
        rw [hf] at HT
        go_wp2_with (first
          | ((with_reducible refine gate_dst (N := 10) rfl ?_)
             refine box_event ?hg (N := 10) ?hd (cs := #[.int .i64 0, .slice none 0 0, .bool false]) (t := 38) ?hr ?_
             (case hd => rfl)
             (case hg => rfl)
             (case hr => first | (go_simp; done) | (go_simp; rfl))
             intro g10 hg10 w10 hbox10 hb10
             replace hc0' := (hb10.cell (World.block_lt_of_cell? _ _ hc0')).trans hc0'
             replace hc1' := (hb10.cell (World.block_lt_of_cell? _ _ hc1')).trans hc1'
             replace hc2' := (hb10.cell (World.block_lt_of_cell? _ _ hc2')).trans hc2'
             have hcz_0 : w10.cell? ⟨g10, 0, none⟩ = some (.int .i64 0) := (blk_cell hbox10 0).trans rfl
             have hcz_1 : w10.cell? ⟨g10, 1, none⟩ = some (.slice none 0 0) := (blk_cell hbox10 1).trans rfl
             have hcz_2 : w10.cell? ⟨g10, 2, none⟩ = some (.bool false) := (blk_cell hbox10 2).trans rfl
             have hfz_0 := blk_frozen hbox10 0
             have hfz_1 := blk_frozen hbox10 1
             have hfz_2 := blk_frozen hbox10 2
             have BK10 := Aside0.mk (And.intro hg10 (And.intro hbox10 hb10))
             clear hg10 hbox10 hb10))
        go_roundw
        case rel =>
          have hbx : Below wr.heap.size wr (((w10.setCell ⟨g10, 0, none⟩ (.int .i64 l2[i].f0.f0)).setCell ⟨g10, 1, none⟩ (.slice At l2[i].f0.f1.length ct)).setCell ⟨g10, 2, none⟩ (.bool true)) := below_set (below_set (below_set BK10.out.2.2 (Nat.le_of_eq BK10.out.1.symm)) (Nat.le_of_eq BK10.out.1.symm)) (Nat.le_of_eq BK10.out.1.symm)
          exact ⟨i + 1, by go_num, by omega, ⟨by rw [HT.out, if_pos rfl, List.append_nil]; exact Kd.R_below HO.out hbx⟩, ⟨below_step HB.out hbx⟩, ⟨blk_below HG.out hbx⟩⟩
        case measure => simp [intOf]; omega
      | false =>
        rw [hf] at hc2'
        rw [hf] at HT
        go_wp2_with (first
          | ((with_reducible refine gate_dst (N := 10) rfl ?_)
             refine box_event ?hg (N := 10) ?hd (cs := #[.int .i64 0, .slice none 0 0, .bool false]) (t := 38) ?hr ?_
             (case hd => rfl)
             (case hg => rfl)
             (case hr => first | (go_simp; done) | (go_simp; rfl))
             intro g10 hg10 w10 hbox10 hb10
             replace hc0' := (hb10.cell (World.block_lt_of_cell? _ _ hc0')).trans hc0'
             replace hc1' := (hb10.cell (World.block_lt_of_cell? _ _ hc1')).trans hc1'
             replace hc2' := (hb10.cell (World.block_lt_of_cell? _ _ hc2')).trans hc2'
             have hcz_0 : w10.cell? ⟨g10, 0, none⟩ = some (.int .i64 0) := (blk_cell hbox10 0).trans rfl
             have hcz_1 : w10.cell? ⟨g10, 1, none⟩ = some (.slice none 0 0) := (blk_cell hbox10 1).trans rfl
             have hcz_2 : w10.cell? ⟨g10, 2, none⟩ = some (.bool false) := (blk_cell hbox10 2).trans rfl
             have hfz_0 := blk_frozen hbox10 0
             have hfz_1 := blk_frozen hbox10 1
             have hfz_2 := blk_frozen hbox10 2
             have BK10 := Aside0.mk (And.intro hg10 (And.intro hbox10 hb10))
             clear hg10 hbox10 hb10)
          | (at_builtin
             go_loud (refine Kd.R_append_rows (kF w P2_) (Rr := fun x cs => Kd.FK k32 w P2_ x cs) (w0 := w) w.heap.size rfl _ _ 26 32 (.agg #[.int .i64 0, .slice none 0 0]) 32 rfl Try.underlying26 info32 rfl (Nat.zero_lt_succ 1) (by decide) _ (((l2.take i).filter fun x => !x.f1).map (·.f0)) [l2[i].f0] _ 1 1 (fun k => k ≠ g6) (fun _ => False) rfl rfl ?ho (box32 _ _ (by simp [World.setCell]) _ _ _ HFK.out) (fun _ _ h => h) (fun _ h => h.elim) ?hf ?hB ?hb (by omega) ?_)
             (case ho => exact Kd.R_alloc (Kd.R_below HO.out (below_set (below_set (below_set BK10.out.2.2 (Nat.le_of_eq BK10.out.1.symm)) (Nat.le_of_eq BK10.out.1.symm)) (Nat.le_of_eq BK10.out.1.symm))) _)
             (case hf => intro q hq; have := blk_lt BK10.out.2.1; have := blk_lt HG.out; have := BK10.out.1; simp [World.setCell, World.alloc] at hq; omega)
             (case hB => exact below_alloc (below_step HB.out (below_set (below_set (below_set BK10.out.2.2 (Nat.le_of_eq BK10.out.1.symm)) (Nat.le_of_eq BK10.out.1.symm)) (Nat.le_of_eq BK10.out.1.symm))) _)
             (case hb => have := HB.out.size; have := BK10.out.2.2.size; simp [World.setCell, World.alloc]; omega)
             intro v1 w1 HO1 HB1 hg1 hat1))
        go_roundw
        case rel =>
          exact ⟨i + 1, by go_num, by omega, ⟨by rw [HT.out, if_neg (by decide)]; exact HO1⟩, ⟨HB1⟩, ⟨blk_grown (blk_alloc (blk_below HG.out (below_set (below_set (below_set BK10.out.2.2 (Nat.le_of_eq BK10.out.1.symm)) (Nat.le_of_eq BK10.out.1.symm)) (Nat.le_of_eq BK10.out.1.symm))) _) hg1 (fun e => HO.out.1 _ e.symm rfl)⟩⟩
        case measure => simp [intOf]; omega
    · obtain rfl : i = l2.length := by omega
      have HO2 := HO.out
      rw [List.take_length] at HO2
      have HI := Aside0.mk (Kd.R_reads HO2)
      clear HO2 HO
      have H1 := H.out
      have hln : ((l2.filter fun x => !x.f1).map (·.f0)).length ≤ l2.length := by
        rw [List.length_map]
        exact List.length_filter_le _ _
      generalize hleft : (l2.filter fun x => !x.f1).map (·.f0) = left at *
      obtain ⟨Al, cl, rfl, hlc, hCl⟩ := HI.out
      have HCl := Aside0.mk hCl
      clear hCl hleft HI H
      have hn0 : wr.cell? ⟨g6, 0, none⟩ = some (.int .i64 0) := (blk_cell HG.out 0).trans rfl
      have hn1 : wr.cell? ⟨g6, 1, none⟩ = some (.slice none 0 0) := (blk_cell HG.out 1).trans rfl
      have hf0 := blk_frozen HG.out 0
      have hf1 := blk_frozen HG.out 1
      rcases left with _ | ⟨x, r⟩
      · rw [minOf] at H1
        obtain ⟨rfl, h2⟩ := Prod.mk.inj (Option.some.inj H1)
        obtain ⟨rfl, rfl⟩ := Prod.mk.inj h2
        go_wp2_with fail
        refine bodyPost_ret (results_ct rfl _ _ g6 32 #[.int .i64 0, .slice none 0 0] (0, 0) _ rfl (blk_put (blk_put HG.out 0 _ rfl) 1 _ rfl) Try.underlying32 rfl (by kernel_rfl)) rfl ?_
        exact ⟨_, rfl, Kd.V_nil _ _ _ _ _, below_set (below_set HB.out hw6) hw6⟩
      · rw [minOf] at H1
        obtain ⟨m, hm, h2⟩ := Option.bind_eq_some_iff.1 H1
        obtain ⟨rfl, h3⟩ := Prod.mk.inj (Option.some.inj h2)
        obtain ⟨rfl, rfl⟩ := Prod.mk.inj h3
        clear h2 h3
        have HM := Aside0.mk hm
        clear hm H1
        go_wp2_with (go_at_call 39; refine (min39 k _ _ l0 a1 (kF w P2_) _ _ (x :: r) m _ (Kd.C_below HR.out HB.out) hc0 HCl.out hlc rfl (Nat.zero_lt_succ _) (fun y cs h => k32.K_below HB.out (Kd.FK_now h)) HM.out).mono ?_; rintro e w' ⟨cs, rfl, hK, hb⟩; obtain ⟨Am, cm, rfl, hlm, hFm⟩ := k32_openF hK; have hk6 := blk_below HG.out hb; replace hn0 : w'.cell? ⟨g6, 0, none⟩ = some (.int .i64 0) := (blk_cell hk6 0).trans rfl; replace hn1 : w'.cell? ⟨g6, 1, none⟩ = some (.slice none 0 0) := (blk_cell hk6 1).trans rfl; replace hf0 := blk_frozen hk6 0; replace hf1 := blk_frozen hk6 1; have HK6 := Aside0.mk hk6; have HW := Aside0.mk (And.intro hb (And.intro hlm hFm)); clear hb hlm hFm hk6 hK)
        refine bodyPost_ret (results_ct rfl _ _ g6 32 #[.int .i64 m.f0, .slice Am m.f1.length cm] (0, 0) _ rfl (blk_put (blk_put HK6.out 0 _ rfl) 1 _ rfl) Try.underlying32 rfl (by kernel_rfl)) rfl ?_
        have hB := below_set (below_set (below_step HB.out HW.out.1) hw6 (j := 0) (v := .int .i64 m.f0)) hw6 (j := 1) (v := .slice Am m.f1.length cm)
        exact ⟨_, rfl, Kd.V_mk HW.out.2.1 (Kd.F_mono (Kd.F_below HW.out.2.2 hB) (fun _ h => .inl h)), hB⟩
end Go.Proofs.Ytjkdfjkaeoklmaa.Q
namespace Go.Proofs.Ytjkdfjkaeoklmaa.Q
open Go.RowKit Go.Proofs.YtjkdfjkaeoklmaaW.PrintWords
/-- x, put behind all that it does not come ahead of. -/
def insR (lt : S32 → S32 → Bool) (x : S32) (o : List S32) : List S32 := (o.reverse.dropWhile (lt x)).reverse ++ x :: (o.reverse.takeWhile (lt x)).reverse
def sortL (lt : S32 → S32 → Bool) (l : List S32) : List S32 := l.foldl (fun o x => insR lt x o) []
theorem insR_len (lt : S32 → S32 → Bool) (x : S32) (o : List S32) : (insR lt x o).length = o.length + 1 := by
  have h : (o.reverse.takeWhile (lt x)).length + (o.reverse.dropWhile (lt x)).length = o.length := by
    rw [← List.length_append, List.takeWhile_append_dropWhile, List.length_reverse]
  simp [insR]
  omega
theorem insR_mem (lt : S32 → S32 → Bool) (x : S32) (o : List S32) (y : S32) : y ∈ insR lt x o ↔ y = x ∨ y ∈ o := by
  have h : y ∈ o ↔ y ∈ o.reverse.takeWhile (lt x) ∨ y ∈ o.reverse.dropWhile (lt x) := by
    rw [← List.mem_append, List.takeWhile_append_dropWhile, List.mem_reverse]
  rw [h]
  simp only [insR, List.mem_append, List.mem_reverse, List.mem_cons]
  grind
theorem sortL_snoc (lt : S32 → S32 → Bool) (l : List S32) (x : S32) : sortL lt (l ++ [x]) = insR lt x (sortL lt l) := by simp [sortL]
theorem rev_ind {P : List S32 → Prop} (h0 : P []) (h1 : ∀ l x, P l → P (l ++ [x])) (l : List S32) : P l := by
  rw [← List.reverse_reverse l]
  induction l.reverse with
  | nil => exact h0
  | cons x r ih => rw [List.reverse_cons]; exact h1 _ _ ih
theorem sortL_len (lt : S32 → S32 → Bool) (l : List S32) : (sortL lt l).length = l.length := by
  induction l using rev_ind with
  | h0 => rfl
  | h1 l x ih => rw [sortL_snoc, insR_len, ih]; simp
theorem sortL_mem (lt : S32 → S32 → Bool) (l : List S32) (y : S32) : y ∈ sortL lt l ↔ y ∈ l := by
  induction l using rev_ind with
  | h0 => simp [sortL]
  | h1 l x ih => rw [sortL_snoc, insR_mem, ih]; simp; grind
theorem takeWhile_congr' {p q : S32 → Bool} {l : List S32} (h : ∀ y ∈ l, p y = q y) : l.takeWhile p = l.takeWhile q ∧ l.dropWhile p = l.dropWhile q := by
  induction l with
  | nil => simp
  | cons x r ih =>
    have hx := h x (by simp)
    have hr := ih (fun y hy => h y (by simp [hy]))
    simp only [List.takeWhile_cons, List.dropWhile_cons, hx, hr]
    simp
theorem insR_congr {lt lt' : S32 → S32 → Bool} {x : S32} {o : List S32} (h : ∀ y ∈ o, lt x y = lt' x y) : insR lt x o = insR lt' x o := by
  obtain ⟨h1, h2⟩ := takeWhile_congr' (p := lt x) (q := lt' x) (l := o.reverse) (fun y hy => h y (by simpa using hy))
  simp [insR, h1, h2]
theorem sortL_congr {lt lt' : S32 → S32 → Bool} {l : List S32} (h : ∀ x ∈ l, ∀ y ∈ l, lt x y = lt' x y) : sortL lt l = sortL lt' l := by
  induction l using rev_ind with
  | h0 => rfl
  | h1 l x ih =>
    rw [sortL_snoc, sortL_snoc, ih (fun a ha b hb => h a (by simp [ha]) b (by simp [hb]))]
    exact insR_congr (fun y hy => h x (by simp) y (by rw [sortL_mem] at hy; simp [hy]))
/-- Where x comes to stand. -/
theorem insR_at {lt : S32 → S32 → Bool} {x : S32} {o : List S32} (j : Nat) (hj : j ≤ o.length) (hd : ∀ y ∈ o.drop j, lt x y = true) (ht : ∀ y, (o.take j).getLast? = some y → lt x y = false) : insR lt x o = o.take j ++ x :: o.drop j := by
  have hr : o.reverse = (o.drop j).reverse ++ (o.take j).reverse := by rw [← List.reverse_append, List.take_append_drop]
  have h1 : (o.take j).reverse.takeWhile (lt x) = [] ∧ (o.take j).reverse.dropWhile (lt x) = (o.take j).reverse := by
    cases hc : (o.take j).reverse with
    | nil => simp
    | cons y r =>
      have : (o.take j).getLast? = some y := by rw [← List.head?_reverse, hc]; rfl
      have := ht y this
      simp [this]
  have hd' : ∀ y ∈ (o.drop j).reverse, lt x y = true := fun y hy => hd y (by simpa using hy)
  unfold insR
  rw [hr, List.takeWhile_append_of_pos hd', List.dropWhile_append_of_pos hd', h1.1, h1.2]
  simp
end Go.Proofs.Ytjkdfjkaeoklmaa.Q
namespace Go.Proofs.Ytjkdfjkaeoklmaa.Q
open Go.RowKit Go.Proofs.YtjkdfjkaeoklmaaW.PrintWords
set_option linter.unusedVariables false
/-- A world that only has more behind w's blocks. -/
structure BelowOf (w : World) where
  v : World
  h : Below w.heap.size w v
instance (w : World) : Inhabited (BelowOf w) := ⟨⟨w, Below.refl _ _⟩⟩
theorem BelowOf.cell {w : World} {a : Addr} {u : Value} (h : w.cell? a = some u) (p : BelowOf w) : p.v.cell? a = some u := (p.h.cell (World.block_lt_of_cell? w _ h)).trans h
theorem wp_region_below {P : Program} {id : Nat} {Q : Exit → Act → World → Prop} {a : Act} {w : World} {l : List Oper} (hm : P.follows .mixedOrders = true) (hB : Region.lexB .any l.toArray = true)
    (h : wpQuiet P l.toArray (fun w' => ∃ p : BelowOf w, w' = p.v) (fun a' => ∀ w', (∃ p : BelowOf w, w' = p.v) → Q .normal a' w') l a) : (Code.region id l.toArray true).wp P Q a w :=
  wp_region_quiet (C := fun w' => ∃ p : BelowOf w, w' = p.v) hm hB ⟨⟨w.drew, below_drew (Below.refl _ _)⟩, rfl⟩ (by simpa using h)
theorem below_of {P : Program} {f : FuncId} {args : Array Value} {w : World} {p : BelowOf w} {v : Value}
    (h : Calls P f args p.v fun e w' => e = .returned v ∧ Below p.v.heap.size p.v w') : Calls P f args p.v fun e w'' => e = .returned v ∧ ∃ p' : BelowOf w, w'' = p'.v :=
  h.mono fun _ w' ⟨he, hb⟩ => ⟨he, ⟨w', below_step p.h hb⟩, rfl⟩
end Go.Proofs.Ytjkdfjkaeoklmaa.Q
namespace Go.Proofs.Ytjkdfjkaeoklmaa.Q
open Go.RowKit Go.Proofs.YtjkdfjkaeoklmaaW.PrintWords Go.Proofs.YtjkdfjkaeoklmaaW.PrintLast Go.Proofs.YtjkdfjkaeoklmaaW.PrintMore
set_option linter.unusedVariables false
set_option linter.unusedSimpArgs false
/-- Comes x ahead of y, as the comparison tells it. -/
def ltO (k : Nat) (l0 : List S45) (a1 : Int) (x y : S32) : Bool := match order_orderer_compare.f k l0 a1 x.f0 x.f1 y.f0 y.f1 with | some t => decide (t < 0) | none => false
def allO (k : Nat) (l0 : List S45) (a1 : Int) (l : List S32) : Prop := ∀ x ∈ l, ∀ y ∈ l, (order_orderer_compare.f k l0 a1 x.f0 x.f1 y.f0 y.f1).isSome = true
/-- An element of a row of one's own, of instantiations. -/
theorem elemR {w W : World} {P2 ok : Nat → Prop} {base g n c : Nat} {l : List S32} (h : (kF w P2).R 32 W base ok (.slice (some ⟨g, 0, none⟩) n c) l) (i : Nat) {x : S32} (hi : l[i]? = some x) :
    ∃ At ct, Kd.FK k32 w P2 x [.int .i64 x.f0, .slice At x.f1.length ct] ∧ x.f1.length ≤ ct ∧ (Kd.int .i64).C w At x.f1.length x.f1 ∧ W.cell? ⟨g, i * 2, none⟩ = some (.int .i64 x.f0) ∧ W.cell? ⟨g, i * 2 + 1, none⟩ = some (.slice At x.f1.length ct) ∧ W.frozen? ⟨g, i * 2, none⟩ = false ∧ W.frozen? ⟨g, i * 2 + 1, none⟩ = false := by
  obtain ⟨hn, _⟩ := Kd.R_reads' h
  obtain ⟨hil, hx⟩ := List.getElem?_eq_some_iff.1 hi
  obtain ⟨cs, hl, hM, hc, hf⟩ := Kd.R_elem h z32 (i : Int) (by omega) (by omega)
  have hM : Kd.FK k32 w P2 (l.getD (i : Int).toNat z32) cs := hM
  rw [Int.toNat_natCast, List.getD_eq_getElem?_getD, hi] at hM
  rw [Int.toNat_natCast] at hc hf
  obtain ⟨At, ct, rfl, hlt, hF⟩ := k32_openF hM
  exact ⟨At, ct, hM, hlt, Kd.F_now hF, hc 0 _ rfl, hc 1 _ rfl, hf 0, hf 1⟩
theorem setR {w W : World} {P2 ok : Nat → Prop} {base g n c : Nat} {l : List S32} (h : (kF w P2).R 32 W base ok (.slice (some ⟨g, 0, none⟩) n c) l) (i : Nat) (hi : i < l.length) {x : S32} {a b : Value} (hx : Kd.FK k32 w P2 x [a, b]) :
    (kF w P2).R 32 ((W.setCell ⟨g, i * 2, none⟩ a).setCell ⟨g, i * 2 + 1, none⟩ b) base ok (.slice (some ⟨g, 0, none⟩) n c) (l.set i x) := by
  obtain ⟨hn, _⟩ := Kd.R_reads' h
  obtain ⟨cs, hl, hM, hc, hf⟩ := Kd.R_elem h z32 (i : Int) (by omega) (by omega)
  have := (Kd.R_seg (okp := fun _ => False) (j := 0) (seg := [a, b]) h (i : Int) (by omega) (by omega) hl hc (Nat.le_refl 2) (x' := x) (by
    show Kd.FK k32 w P2 x _
    have : cs.drop 2 = [] := List.drop_of_length_le (by rw [hl]; exact Nat.le_refl 2)
    simpa [this] using hx) (fun _ h => h.elim)).1
  rw [Int.toNat_natCast] at this
  exact this

theorem row_swap (pre rest : List S32) (x : S32) (j : Nat) (hjp : j < pre.length) : ((pre.take (j + 1) ++ x :: (pre.drop (j + 1) ++ rest)).set (j + 1) pre[j]).set j x = pre.take j ++ x :: (pre.drop j ++ rest) := by
  have l1 : (pre.take j).length = j := by rw [List.length_take]; omega
  have l2 : (pre.take (j + 1)).length = j + 1 := by rw [List.length_take]; omega
  rw [List.set_append_right _ _ (by omega), l2, Nat.sub_self, List.set_cons_zero, List.take_succ_eq_append_getElem hjp, List.append_assoc, List.set_append_right _ _ (by omega), l1, Nat.sub_self, List.singleton_append, List.set_cons_zero, List.drop_eq_getElem_cons hjp, List.cons_append]

set_option maxHeartbeats 4000000 in
set_option maxRecDepth 100000 in
theorem ins53 (k : Nat) (A0 : Option Addr) (c0 : Nat) (l0 : List S45) (a1 : Int) (P2 : Nat → Prop) (g c : Nat) (l : List S32) (w W : World)
    (hr0 : Kd.C k45 w A0 l0.length l0) (hc0 : l0.length ≤ c0) (hB : Below w.heap.size w W) (hR : (kF w P2).R 32 W w.heap.size (fun _ => True) (.slice (some ⟨g, 0, none⟩) l.length c) l) (ha : allO k l0 a1 l) :
    Calls Try.prog 53 #[.slice (some ⟨g, 0, none⟩) l.length c, .int .i64 0, .int .i64 l.length, .func (.func 24) #[.agg #[.slice A0 l0.length c0, .int .u8 a1]] #[]] W fun e w' =>
      e = .returned (.tuple #[]) ∧ (kF w P2).R 32 w' w.heap.size (fun _ => True) (.slice (some ⟨g, 0, none⟩) l.length c) (sortL (ltO k l0 a1) l) ∧ Below w.heap.size w w' := by
  have HA := Aside0.mk ha
  have HR0 := Aside0.mk hr0
  have HR := Aside0.mk hR
  have HB := Aside0.mk hB
  have hm : l.length ≤ 9223372036854775807 := by
    obtain ⟨_, _, hC⟩ := Kd.R_reads' hR
    exact hC.2.1
  have hu32 := Try.underlying32
  have hwg : w.heap.size ≤ g := Kd.R_base hR g rfl
  clear ha hr0 hR hB
  go_enter Try.func53, Try.ntmps53
  go_wp2_with fail
  go_loopw [8, 9] (fun v8 v9 wr => ∃ (i : Nat), v8 = .int .i64 i ∧ 1 ≤ i ∧ i ≤ l.length + 1 ∧ Aside0 ((kF w P2).R 32 wr w.heap.size (fun _ => True) (.slice (some ⟨g, 0, none⟩) l.length c) (sortL (ltO k l0 a1) (l.take i) ++ l.drop i)) ∧ Aside0 (Below w.heap.size w wr)) (fun v8 _ _ => l.length + 1 - (intOf v8).toNat)
  case atStart =>
    refine ⟨1, by go_num, Nat.le_refl _, by omega, ⟨?_⟩, HB⟩
    have : sortL (ltO k l0 a1) (l.take 1) ++ l.drop 1 = l := by
      cases l with
      | nil => rfl
      | cons x r => simp [sortL, insR]
    rw [this]
    exact HR.out
  case round =>
    obtain ⟨i, rfl, hi1, hi2, HR, HB⟩ := hrel
    by_cases hlt : i < l.length
    · have q1 : (i : Int) < (l.length : Int) := by omega
      have hpl : (sortL (ltO k l0 a1) (l.take i)).length = i := by rw [sortL_len, List.length_take]; omega
      have hpm : ∀ y ∈ sortL (ltO k l0 a1) (l.take i), y ∈ l := fun y hy => List.mem_of_mem_take ((sortL_mem _ _ _).1 hy)
      have hsn : sortL (ltO k l0 a1) (l.take (i + 1)) = insR (ltO k l0 a1) l[i] (sortL (ltO k l0 a1) (l.take i)) := by rw [List.take_succ_eq_append_getElem hlt, sortL_snoc]
      have hxm : l[i] ∈ l := List.getElem_mem _
      have hdr : l.drop i = l[i] :: l.drop (i + 1) := List.drop_eq_getElem_cons hlt
      rw [hdr] at HR
      generalize sortL (ltO k l0 a1) (l.take i) = pre at *
      generalize hrest : l.drop (i + 1) = rest at *
      generalize l[i] = x at *
      have HPM := Aside0.mk hpm
      have HSN := Aside0.mk hsn
      have HXM := Aside0.mk hxm
      have HRST := Aside0.mk hrest
      clear hpm hsn hxm hdr hrest
      go_wp2_with fail
      go_loopw [9] (fun v9 wr => ∃ (j : Nat), v9 = .int .i64 j ∧ j ≤ i ∧ Aside0 ((kF w P2).R 32 wr w.heap.size (fun _ => True) (.slice (some ⟨g, 0, none⟩) l.length c) (pre.take j ++ x :: (pre.drop j ++ rest))) ∧ Aside0 (∀ y ∈ pre.drop j, ltO k l0 a1 x y = true) ∧ Aside0 (Below w.heap.size w wr)) (fun v9 _ => (intOf v9).toNat)
      case atStart =>
        refine ⟨i, rfl, Nat.le_refl _, ⟨?_⟩, ⟨?_⟩, HB⟩
        · rw [List.take_of_length_le (by omega), List.drop_of_length_le (by omega), List.nil_append]; exact HR.out
        · rw [List.drop_of_length_le (by omega)]; intro y hy; cases hy
      case round =>
        obtain ⟨j, rfl, hji, HR, HD, HB⟩ := hrel
        rcases j with _ | j
        · have hq' : decide ((0 : Int) > 0) = false := rfl
          go_wp2_with fail
          go_quiet (fail)
          go_wp2_with fail
          go_roundw
          case rel =>
            refine ⟨i + 1, by first | rfl | go_num, by omega, by omega, ⟨?_⟩, ⟨pw_below_drewN HB.out _⟩⟩
            have e := insR_at (lt := ltO k l0 a1) (x := x) (o := pre) 0 (by omega) HD.out (by simp)
            rw [HSN.out, e, HRST.out, List.append_assoc]
            exact Kd.R_drewN HR.out _
          case measure => simp [intOf]; omega
        · have hjp : j < pre.length := by omega
          have hx0 : (pre.take (j + 1) ++ x :: (pre.drop (j + 1) ++ rest))[j + 1]? = some x := by
            rw [List.getElem?_append_right (by rw [List.length_take]; omega), List.length_take, Nat.min_eq_left (by omega)]; simp
          have hy0 : (pre.take (j + 1) ++ x :: (pre.drop (j + 1) ++ rest))[j]? = some pre[j] := by
            rw [List.getElem?_append_left (by rw [List.length_take]; omega), List.getElem?_take, if_pos (by omega), List.getElem?_eq_getElem hjp]
          obtain ⟨Ax, cx, hKx, hlx, hCx, hx1, hx2, hx3, hx4⟩ := elemR HR.out (j + 1) hx0
          obtain ⟨Ay, cy, hKy, hly, hCy, hy1, hy2, hy3, hy4⟩ := elemR HR.out j hy0
          have hys := HA.out x HXM.out pre[j] (HPM.out _ (List.getElem_mem _))
          obtain ⟨t, ht⟩ := Option.isSome_iff_exists.1 hys
          have hlt' : ltO k l0 a1 x pre[j] = decide (t < 0) := by simp only [ltO, ht]
          have HT := Aside0.mk ht
          have HL := Aside0.mk hlt'
          have HX := Aside0.mk (And.intro hKx (And.intro hlx hCx))
          have HY := Aside0.mk (And.intro hKy (And.intro hly hCy))
          clear hKx hlx hCx hKy hly hCy hx0 hy0 hys ht hlt'
          have q3 : decide (((j + 1 : Nat) : Int) > 0) = true := decide_eq_true (by omega)
          have q4 : ((j + 1 : Nat) : Int) < (l.length : Int) := by omega
          have q5 : (0 : Int) ≤ ((j + 1 : Nat) : Int) := by omega
          have r3 : decide ((j : Int) + 1 > 0) = true := decide_eq_true (by omega)
          have r4 : (j : Int) + 1 < (l.length : Int) := by omega
          have r5 : (0 : Int) ≤ (j : Int) + 1 := by omega
          have r6 : IntKind.i64.wrap (j : Int) = (j : Int) := by rw [i64_w]; exact w64 (by omega) (by omega)
          have r7 : (j : Int) < (l.length : Int) := by omega
          have bx1 := BelowOf.cell hx1
          have bx2 := BelowOf.cell hx2
          have by1 := BelowOf.cell hy1
          have by2 := BelowOf.cell hy2
          go_wp2_with fail
          refine wp_region_below (by kernel_rfl) (by kernel_rfl) ?_
          repeat (quiet_step (first
            | (refine below_of (order_orderer_compare.calls k _ _ l0 a1 _ _ _ _ _ _ _ _ t _ ?s1 ?s2 ?s3 ?s4 ?s5 ?s6 HT.out)
               (case s1 => exact Kd.C_below HR0.out (below_step HB.out (BelowOf.h _)))
               (case s2 => exact hc0)
               (case s3 => exact Kd.C_below HX.out.2.2 (below_step HB.out (BelowOf.h _)))
               (case s4 => exact HX.out.2.1)
               (case s5 => exact Kd.C_below HY.out.2.2 (below_step HB.out (BelowOf.h _)))
               (case s6 => exact HY.out.2.1))))
          refine wpQuiet_nil ?_
          intro _ hw'
          obtain ⟨pq, hw''⟩ := hw'
          subst hw''
          clear bx1 bx2 by1 by2
          have HRp := Aside0.mk (Kd.R_below HR.out pq.h)
          have HBp := Aside0.mk (below_step HB.out pq.h)
          have hx0 : (pre.take (j + 1) ++ x :: (pre.drop (j + 1) ++ rest))[j + 1]? = some x := by
            rw [List.getElem?_append_right (by rw [List.length_take]; omega), List.length_take, Nat.min_eq_left (by omega)]; simp
          have hy0 : (pre.take (j + 1) ++ x :: (pre.drop (j + 1) ++ rest))[j]? = some pre[j] := by
            rw [List.getElem?_append_left (by rw [List.length_take]; omega), List.getElem?_take, if_pos (by omega), List.getElem?_eq_getElem hjp]
          obtain ⟨fx3, fx4⟩ : pq.v.frozen? ⟨g, (j + 1) * 2, none⟩ = false ∧ pq.v.frozen? ⟨g, (j + 1) * 2 + 1, none⟩ = false := by
            obtain ⟨_, _, _, _, _, _, _, h3, h4⟩ := elemR HRp.out (j + 1) hx0
            exact ⟨h3, h4⟩
          obtain ⟨fy3, fy4⟩ : pq.v.frozen? ⟨g, j * 2, none⟩ = false ∧ pq.v.frozen? ⟨g, j * 2 + 1, none⟩ = false := by
            obtain ⟨_, _, _, _, _, _, _, h3, h4⟩ := elemR HRp.out j hy0
            exact ⟨h3, h4⟩
          have hrow := row_swap pre rest x j hjp
          have HROW := Aside0.mk hrow
          clear hrow
          replace hx1 := BelowOf.cell hx1 pq
          replace hx2 := BelowOf.cell hx2 pq
          replace hy1 := BelowOf.cell hy1 pq
          replace hy2 := BelowOf.cell hy2 pq
          clear hx3 hx4 hy3 hy4 hx0 hy0
          by_cases ht : t < 0
          · go_wp2_with fail
            go_region_with fail
            all_goals
              go_wp2_with fail
              go_roundw
              case rel =>
                refine ⟨j, by first | rfl | go_num, by omega, ⟨?_⟩, ⟨?_⟩, ⟨?_⟩⟩
                · rw [← HROW.out]
                  repeat (first | exact setR (setR HRp.out (j + 1) (by simp; omega) HY.out.1) j (by simp; omega) HX.out.1 | apply Kd.R_drew)
                · intro y hy
                  rw [List.drop_eq_getElem_cons hjp] at hy
                  rcases List.mem_cons.1 hy with rfl | hy
                  · rw [HL.out]; exact decide_eq_true ht
                  · exact HD.out y hy
                · repeat (first | exact HBp.out | refine below_set ?_ hwg | apply below_drew)
              case measure => simp [intOf]; try omega
          · go_wp2_with fail
            go_roundw
            case rel =>
              refine ⟨i + 1, by first | rfl | go_num, by omega, by omega, ⟨?_⟩, HBp⟩
              have e := insR_at (lt := ltO k l0 a1) (x := x) (o := pre) (j + 1) (by omega) HD.out (by
                intro y hy
                have e1 : pre.take (j + 1) = pre.take j ++ [pre[j]] := List.take_succ_eq_append_getElem hjp
                rw [e1, List.getLast?_append] at hy
                simp at hy
                subst hy
                rw [HL.out]
                exact decide_eq_false ht)
              rw [HSN.out, e, HRST.out, List.append_assoc]
              exact HRp.out
            case measure => simp [intOf]; omega
    · go_wp2_with fail
      go_end0
      have h1 : l.take i = l := List.take_of_length_le (by omega)
      have h2 : l.drop i = [] := List.drop_of_length_le (by omega)
      have h3 := HR.out
      rw [h1, h2, List.append_nil] at h3
      exact ⟨rfl, h3, HB.out⟩
end Go.Proofs.Ytjkdfjkaeoklmaa.Q
namespace Go.Proofs.Ytjkdfjkaeoklmaa.Q
open Go.RowKit Go.Proofs.YtjkdfjkaeoklmaaW.PrintWords Go.Proofs.YtjkdfjkaeoklmaaW.PrintLast Go.Proofs.YtjkdfjkaeoklmaaW.PrintMore
set_option linter.unusedVariables false
set_option linter.unusedSimpArgs false

set_option maxHeartbeats 1000000 in
theorem clone30 (P2 : Nat → Prop) (A : Option Addr) (c : Nat) (l : List S32) (w : World) (hs : Kd.V k32 32 w w.heap.size (fun k_ => P2 k_) (.slice A l.length c) l) (hb : l.length < 4398046511104) :
    Calls Try.prog 30 #[.slice A l.length c] w fun e w' => ∃ v, e = .returned v ∧ (kF w P2).R 32 w' w.heap.size (fun _ => True) v l ∧ Below w.heap.size w w' := by
  have qT : ∀ (w : World) (a : Option Addr) (n c n' c' : Nat), (binOp .eql 26 (.slice a n c) (.slice none n' c')).run Try.prog w = .ok (.bool a.isNone) w := fun w a n c n' c' => Lib.run_eql_slice_nil w _ _ a n c n' c' Try.underlying26
  have HF := Aside0.mk (Kd.V_F hs)
  clear hs
  rcases A with _ | ad
  · have h0 : l = [] := by
      rcases l with _ | ⟨x, l⟩
      · rfl
      · obtain ⟨ad, h, _⟩ := (Kd.F_now HF.out).2.2 (by simp)
        cases h
    subst h0
    go_enter Try.func30, Try.ntmps30
    go_wp2
    go_ret
    exact ⟨_, rfl, Kd.R_nil _ _ _ _ _, Below.refl _ _⟩
  · have HRW := Aside0.mk (show ∀ o : Obj, ReadsRow (fun x cs => Kd.FK k32 w P2 x cs) 2 (w.alloc o) (some ad) l.length l from fun o => ReadsRow.imp_ (Kd.F_rows HF.out) (below_alloc (Below.refl _ _) o) (fun _ _ h => h))
    go_enter Try.func30, Try.ntmps30
    go_wp2_with (at_builtin; refine Kd.R_append_rows (kF w P2) (Rr := fun x cs => Kd.FK k32 w P2 x cs) (w0 := w) w.heap.size rfl _ _ 26 32 (.agg #[.int .i64 0, .slice none 0 0]) 32 rfl Try.underlying26 info32 rfl (Nat.zero_lt_succ 1) (by decide) _ [] l (some ad) l.length c (fun _ => True) (fun _ => False) rfl rfl (Kd.R_lit0 (kF w P2) 32 w) (HRW.out _) (fun _ _ h => h) (fun _ h => h.elim) (fun _ _ => trivial) ((Below.refl _ _).alloc (Nat.le_refl _) _) (by simp) (by simp; omega) ?_; intro v1 w1 HO1 HB1 hg1 hat1)
    go_ret
    exact ⟨_, rfl, by simpa using HO1, HB1⟩

theorem ins53e (v : Value) (a b : Nat) (f : Value) (W : World) (hab : b ≤ a + 1) (ha : a < 1000) : Calls Try.prog 53 #[v, .int .i64 a, .int .i64 b, f] W fun e w' => e = .returned (.tuple #[]) ∧ W = w' := by
  have q : ¬ ((a : Int) + 1 < (b : Int)) := by omega
  have q2 : IntKind.i64.wrap ((a : Int) + 1) = (a : Int) + 1 := by rw [i64_w]; exact w64 (by omega) (by omega)
  go_enter Try.func53, Try.ntmps53
  go_wp2_with fail
  refine wp_loop_rounds 1 ?_
  rw [rounds_succ]
  go_wp2_with fail
  go_end0
  exact ⟨rfl, rfl⟩

set_option maxHeartbeats 1000000 in
theorem stable46 (k : Nat) (A0 : Option Addr) (c0 : Nat) (l0 : List S45) (a1 : Int) (P2 : Nat → Prop) (v : Value) (l : List S32) (w W : World)
    (hr0 : Kd.C k45 w A0 l0.length l0) (hc0 : l0.length ≤ c0) (hB : Below w.heap.size w W) (hR : (kF w P2).R 32 W w.heap.size (fun _ => True) v l) (ha : allO k l0 a1 l) (hl : l.length ≤ 20) :
    Calls Try.prog 46 #[v, .int .i64 l.length, .func (.func 24) #[.agg #[.slice A0 l0.length c0, .int .u8 a1]] #[]] W fun e w' =>
      e = .returned (.tuple #[]) ∧ (kF w P2).R 32 w' w.heap.size (fun _ => True) v (sortL (ltO k l0 a1) l) ∧ Below w.heap.size w w' := by
  obtain ⟨A, c, rfl, hlc, hC⟩ := Kd.R_reads hR
  have HR := Aside0.mk hR
  have HB := Aside0.mk hB
  have HR0 := Aside0.mk hr0
  have HA := Aside0.mk ha
  clear hr0 hB hR ha hC
  by_cases h0 : l.length = 0
  · have hn : l = [] := List.eq_nil_of_length_eq_zero h0
    subst hn
    go_enter Try.func46, Try.ntmps46
    go_wp2_with fail
    refine wp_loop_rounds 1 ?_
    rw [rounds_succ]
    go_wp2_with (go_at_call 53; refine (ins53e _ 0 0 _ _ (by omega) (by omega)).mono ?_; rintro e w' ⟨rfl, rfl⟩)
    refine wp_loop_rounds 1 ?_
    rw [rounds_succ]
    go_wp2_with fail
    go_end0
    exact ⟨rfl, HR.out, HB.out⟩
  · have hA : ∃ ad, A = some ad := by
      obtain ⟨_, _, hC⟩ := Kd.R_reads' HR.out
      obtain ⟨ad, h, _⟩ := hC.2.2 (by omega)
      exact ⟨ad, h⟩
    obtain ⟨ad, rfl⟩ := hA
    obtain ⟨g, rfl⟩ := Kd.R_head HR.out
    by_cases h20 : l.length < 20
    · have q1 : ¬ ((20 : Int) ≤ (l.length : Int)) := by omega
      have q2 : ¬ ((20 : Int) < (l.length : Int)) := by omega
      go_enter Try.func46, Try.ntmps46
      go_wp2_with fail
      refine wp_loop_rounds 1 ?_
      rw [rounds_succ]
      go_wp2_with (go_at_call 53; refine (ins53 k _ _ l0 a1 P2 g c l w _ HR0.out hc0 HB.out HR.out HA.out).mono ?_; rintro e w' ⟨rfl, hR, hB⟩)
      refine wp_loop_rounds 1 ?_
      rw [rounds_succ]
      go_wp2_with fail
      go_end0
      exact ⟨rfl, hR, hB⟩
    · have h20 : l.length = 20 := by omega
      have e : (l.length : Int) = 20 := by omega
      have q1 : (20 : Int) ≤ (l.length : Int) := by omega
      have q2 : ¬ ((20 : Int) < (l.length : Int)) := by omega
      have q3 : ¬ ((40 : Int) ≤ (l.length : Int)) := by omega
      have C := ins53 k _ _ l0 a1 P2 g c l w _ HR0.out hc0 HB.out HR.out HA.out
      rw [e] at C
      have HC := Aside0.mk C
      have HE := Aside0.mk e
      clear C e
      replace h20 := Aside0.mk h20
      go_enter Try.func46, Try.ntmps46
      go_wp2_with fail
      refine wp_loop_rounds 2 ?_
      rw [rounds_succ]
      go_wp2_with (go_at_call 53; refine HC.out.mono ?_; rintro e w' ⟨rfl, hR, hB⟩)
      rw [rounds_succ]
      go_wp2_with (go_at_call 53; refine (ins53e _ 20 l.length _ _ (by have := HE.out; omega) (by omega)).mono ?_; rintro e w' ⟨rfl, rfl⟩)
      refine wp_loop_rounds 1 ?_
      rw [rounds_succ]
      go_wp2_with fail
      go_end0
      exact ⟨rfl, hR, hB⟩

set_option maxHeartbeats 1000000 in
theorem stable31 (k : Nat) (A0 : Option Addr) (c0 : Nat) (l0 : List S45) (a1 : Int) (P2 : Nat → Prop) (v : Value) (l : List S32) (w W : World)
    (hr0 : Kd.C k45 w A0 l0.length l0) (hc0 : l0.length ≤ c0) (hB : Below w.heap.size w W) (hR : (kF w P2).R 32 W w.heap.size (fun _ => True) v l) (ha : allO k l0 a1 l) (hl : l.length ≤ 20) :
    Calls Try.prog 31 #[v, .func (.func 24) #[.agg #[.slice A0 l0.length c0, .int .u8 a1]] #[]] W fun e w' =>
      e = .returned (.tuple #[]) ∧ (kF w P2).R 32 w' w.heap.size (fun _ => True) v (sortL (ltO k l0 a1) l) ∧ Below w.heap.size w w' := by
  obtain ⟨A, c, rfl, hlc, hC⟩ := Kd.R_reads hR
  have HR := Aside0.mk hR
  have HB := Aside0.mk hB
  have HR0 := Aside0.mk hr0
  have HA := Aside0.mk ha
  clear hr0 hB hR ha hC
  go_enter Try.func31, Try.ntmps31
  go_wp2_with (go_at_call 46; refine (stable46 k _ _ l0 a1 P2 _ l w _ HR0.out hc0 HB.out HR.out HA.out hl).mono ?_; rintro e w' ⟨rfl, hR, hB⟩)
  go_end0
  exact ⟨rfl, hR, hB⟩

/-- Sorted: as long as the comparison tells all pairs. -/
def order_Sort.f (k : Nat) (l0 : List S45) (a1 : Int) (l2 : List S32) : Option (List S32) :=
  if l2.length ≤ 20 ∧ (l2.all fun x => l2.all fun y => (order_orderer_compare.f k l0 a1 x.f0 x.f1 y.f0 y.f1).isSome) = true then some (sortL (ltO k l0 a1) l2) else none
theorem kF_V {w W : World} {P2 : Nat → Prop} {base base' : Nat} {v : Value} {l : List S32} (h : (kF w P2).R 32 W base (fun _ => True) v l) (hB : Below w.heap.size w W) (hb : w.heap.size ≤ base) : Kd.V k32 32 W base' (fun k => P2 k ∨ w.heap.size ≤ k) v l := by
  refine Kd.N_V (base := base) (Kd.N_mono (ok := fun k => P2 k ∧ k < w.heap.size ∨ base ≤ k) ?_ (fun k hk => hk.imp And.left (fun h => Nat.le_trans hb h)))
  have hbase : ∀ k, v.ownBlock = some k → base ≤ k := by
    obtain ⟨A, c, rfl⟩ := Kd.R_slice h
    exact fun k hk => Kd.R_base h k hk
  obtain ⟨h0, inner, ho, hr⟩ := h
  refine ⟨fun k hk => .inr (hbase k hk), Kd.chunks 2 l.length inner, Kd.chunks_length _ _ _, ⟨fun k hk => hk.symm, inner, by rw [Kd.chunks_length]; exact ho, Kd.reps_raw hr (fun x c hp => ⟨k32.K_len (Kd.FK_now hp), k32.K_one (Kd.FK_now hp)⟩)⟩, fun j x c hx hc => ?_⟩
  rw [Kd.chunks_get hc]
  have hK : Kd.FK k32 w P2 x _ := hr.2 j x hx
  exact Kd.FK_mono (Kd.FK_below (Kd.FK_bound hK) hB) (fun k hk => ⟨.inl hk, fun e => by have := hbase k e.symm; have := hk.2; omega⟩)
set_option maxHeartbeats 1000000 in
theorem order_Sort.calls (k : Nat) (A0 : Option Addr) (c0 : Nat) (l0 : List (S45)) (a1 : Int) (P2_ : Nat → Prop) (A2 : Option Addr) (c2 : Nat) (l2 : List (S32)) (r : List S32) (w : World) (hr0 : Kd.C k45 w A0 l0.length l0) (hc0 : l0.length ≤ c0) (hs2 : Kd.V k32 32 w w.heap.size (fun k_ => P2_ k_) (.slice A2 l2.length c2) l2) (h : order_Sort.f k l0 a1 l2 = some r) :
    Calls Try.prog 12 #[.slice A0 l0.length c0, .int .u8 a1, .slice A2 l2.length c2] w fun e w' => ∃ v0_ : Value, e = .returned v0_ ∧ Kd.V k32 32 w' w.heap.size (fun k_ => (P2_ k_ ∨ w.heap.size ≤ k_)) v0_ r ∧ Below w.heap.size w w' := by
  unfold order_Sort.f at h
  split at h
  · rename_i hc
    obtain ⟨h1, h2⟩ := hc
    obtain rfl := Option.some.inj h
    have h2' : allO k l0 a1 l2 := fun x hx y hy => List.all_eq_true.1 (List.all_eq_true.1 h2 x hx) y hy
    have HA := Aside0.mk h2'
    have HR0 := Aside0.mk hr0
    have HS := Aside0.mk hs2
    clear h h2 h2' hr0 hs2
    go_enter Try.func12, Try.ntmps12
    go_wp2_with (first
      | (go_at_call 30; refine (clone30 P2_ _ _ l2 _ HS.out (by omega)).mono ?_; rintro e w1 ⟨v, rfl, hR, hB⟩; have HR := Aside0.mk hR; have HB := Aside0.mk hB; clear hR hB)
      | (go_at_call 31; refine (stable31 k _ _ l0 a1 P2_ _ l2 w _ HR0.out hc0 HB.out HR.out HA.out h1).mono ?_; rintro e w2 ⟨rfl, hR2, hB2⟩))
    go_ret
    exact ⟨_, rfl, kF_V hR2 hB2 (Nat.le_refl _), hB2⟩
  · cases h
end Go.Proofs.Ytjkdfjkaeoklmaa.Q


namespace Go.Proofs.Ytjkdfjkaeoklmaa.Q
open Go.RowKit Go.Proofs.YtjkdfjkaeoklmaaW.PrintWords
set_option linter.unusedVariables false
set_option linter.unusedSimpArgs false
section
variable {lt : S32 → S32 → Bool}
theorem insR_perm (x : S32) (o : List S32) : (insR lt x o).Perm (x :: o) := by
  unfold insR
  refine (List.perm_middle).trans (List.Perm.cons x ?_)
  rw [← List.reverse_append, List.takeWhile_append_dropWhile]
  exact (List.reverse_perm _).trans (List.reverse_perm _)
theorem sortL_perm (l : List S32) : (sortL lt l).Perm l := by
  induction l using rev_ind with
  | h0 => exact List.Perm.refl _
  | h1 l x ih =>
    rw [sortL_snoc]
    exact (insR_perm x _).trans ((List.Perm.cons x ih).trans (List.perm_append_singleton x l).symm)
/-- None comes ahead of one before it. -/
def Sorted (lt : S32 → S32 → Bool) (l : List S32) : Prop := l.Pairwise (fun a b => lt b a = false)
variable (irr : ∀ x, lt x x = false) (tri : ∀ x y, x ≠ y → lt x y = !lt y x) (tr : ∀ x y z, lt x y = true → lt y z = true → lt x z = true)
include irr tri in
theorem lt_asymm {x y : S32} (h : lt x y = true) : lt y x = false := by
  by_cases e : x = y
  · rw [e]; exact irr y
  · have := tri x y e
    rw [h] at this
    cases hy : lt y x with
    | true => rw [hy] at this; cases this
    | false => rfl
include tri tr in
theorem ge_trans {x y z : S32} (h1 : lt y x = false) (h2 : lt z y = false) : lt z x = false := by
  cases h : lt z x with
  | false => rfl
  | true =>
    exfalso
    by_cases e : x = y
    · subst e; rw [h] at h2; cases h2
    · have h3 : lt x y = true := by rw [tri x y e, h1]; rfl
      have := tr z x y h h3
      rw [this] at h2; cases h2
include irr tri tr in
theorem insR_sorted (x : S32) (o : List S32) (h : Sorted lt o) : Sorted lt (insR lt x o) := by
  obtain ⟨a, b, hab, hb, ha⟩ : ∃ a b, o = a ++ b ∧ (∀ y ∈ b, lt x y = true) ∧ (∀ y ∈ a, lt x y = false) := by
    refine ⟨(o.reverse.dropWhile (lt x)).reverse, (o.reverse.takeWhile (lt x)).reverse, ?_, ?_, ?_⟩
    · rw [← List.reverse_append, List.takeWhile_append_dropWhile, List.reverse_reverse]
    · intro y hy
      have : ∀ (l : List S32), ∀ y ∈ l.takeWhile (lt x), lt x y = true := by
        intro l
        induction l with
        | nil => simp
        | cons z l ih =>
          intro y hy
          rw [List.takeWhile_cons] at hy
          split at hy
          · rcases List.mem_cons.1 hy with rfl | hy
            · assumption
            · exact ih y hy
          · cases hy
      exact this _ y (by simpa using hy)
    · intro y hy
      have hs : (o.reverse.dropWhile (lt x)).reverse.Pairwise (fun a b => lt b a = false) := by
        have : o = (o.reverse.dropWhile (lt x)).reverse ++ (o.reverse.takeWhile (lt x)).reverse := by rw [← List.reverse_append, List.takeWhile_append_dropWhile, List.reverse_reverse]
        have h' : Sorted lt ((o.reverse.dropWhile (lt x)).reverse ++ (o.reverse.takeWhile (lt x)).reverse) := this ▸ h
        exact (List.pairwise_append.1 h').1
      have hd : ∀ z, (o.reverse.dropWhile (lt x)).head? = some z → lt x z = false := by
        intro z hz
        have : ∀ (l : List S32), (l.dropWhile (lt x)).head? = some z → lt x z = false := by
          intro l
          induction l with
          | nil => simp
          | cons q l ih =>
            rw [List.dropWhile_cons]
            split
            · exact ih
            · rename_i hq
              intro e
              simp at e
              subst e
              simpa using hq
        exact this _ hz
      generalize o.reverse.dropWhile (lt x) = d at *
      cases d with
      | nil => cases hy
      | cons z d =>
        have hz := hd z rfl
        rw [List.reverse_cons, List.pairwise_append] at hs
        rcases List.mem_append.1 (by simpa using hy : y ∈ d.reverse ++ [z]) with h1 | h1
        · exact ge_trans tri tr (hs.2.2 y h1 z (by simp)) hz
        · simp at h1; subst h1; exact hz
  have e : insR lt x o = a ++ x :: b := by
    subst hab
    have := insR_at (lt := lt) (x := x) (o := a ++ b) a.length (by simp) (by simpa using hb) (by
      intro y hy
      rw [List.take_left'] at hy
      · exact ha y (List.mem_of_getLast? hy)
      · rfl)
    simpa using this
  rw [e]
  subst hab
  unfold Sorted at h ⊢
  rw [List.pairwise_append] at h ⊢
  refine ⟨h.1, List.pairwise_cons.2 ⟨fun y hy => lt_asymm irr tri (hb y hy), h.2.1⟩, fun p hp q hq => ?_⟩
  rcases List.mem_cons.1 hq with rfl | hq
  · exact ha p hp
  · exact h.2.2 p hp q hq
include irr tri tr in
theorem sortL_sorted (l : List S32) : Sorted lt (sortL lt l) := by
  induction l using rev_ind with
  | h0 => exact List.Pairwise.nil
  | h1 l x ih => rw [sortL_snoc]; exact insR_sorted irr tri tr x _ ih
include irr tri tr in
theorem sortL_eq {l l' : List S32} (h : l.Perm l') : sortL lt l = sortL lt l' :=
  List.Perm.eq_of_pairwise (le := fun a b => lt b a = false) (fun a b _ _ h1 h2 => by
    by_cases e : a = b
    · exact e
    · have := tri a b e
      rw [h2, h1] at this
      cases this) (sortL_sorted irr tri tr l) (sortL_sorted irr tri tr l') ((sortL_perm l).trans (h.trans (sortL_perm l').symm))
end
/-- The least one, told on. -/
def minT (lt : S32 → S32 → Bool) : S32 → List S32 → S32
  | m, [] => m
  | m, x :: r => if lt x m = true then minT lt x r else minT lt m r
section
variable {lt : S32 → S32 → Bool} (irr : ∀ x, lt x x = false) (tri : ∀ x y, x ≠ y → lt x y = !lt y x) (tr : ∀ x y z, lt x y = true → lt y z = true → lt x z = true)
theorem minT_mem : ∀ (r : List S32) (m : S32), minT lt m r ∈ m :: r
  | [], m => by simp [minT]
  | x :: r, m => by
    rw [minT]
    split
    · have := minT_mem r x
      simp at this ⊢
      grind
    · have := minT_mem r m
      simp at this ⊢
      grind
include irr tri tr in
theorem minT_least : ∀ (r : List S32) (m : S32), ∀ y ∈ m :: r, lt y (minT lt m r) = false
  | [], m, y, hy => by
    simp at hy
    subst hy
    exact irr y
  | x :: r, m, y, hy => by
    rw [minT]
    split
    · rename_i h
      rcases List.mem_cons.1 hy with rfl | hy
      · exact ge_trans tri tr (minT_least r x x (by simp)) (lt_asymm irr tri h)
      · exact minT_least r x y hy
    · rename_i h
      have h : lt x m = false := by simpa using h
      rcases List.mem_cons.1 hy with rfl | hy
      · exact minT_least r y y (by simp)
      · rcases List.mem_cons.1 hy with rfl | hy
        · exact ge_trans tri tr (minT_least r m m (by simp)) h
        · exact minT_least r m y (by simp [hy])
include irr tri tr in
theorem minT_head (x : S32) (r : List S32) : (sortL lt (x :: r)).head? = some (minT lt x r) := by
  cases h : sortL lt (x :: r) with
  | nil =>
    have := sortL_len lt (x :: r)
    rw [h] at this
    simp at this
  | cons y s =>
    have hs := sortL_sorted irr tri tr (x :: r)
    rw [h] at hs
    have hy : y ∈ x :: r := (sortL_mem lt _ y).1 (by rw [h]; simp)
    have hm : minT lt x r ∈ sortL lt (x :: r) := (sortL_mem lt _ _).2 (minT_mem r x)
    have h1 : lt y (minT lt x r) = false := minT_least irr tri tr r x y hy
    rw [h] at hm
    rcases List.mem_cons.1 hm with e | hm
    · rw [e]; rfl
    · have h2 : lt (minT lt x r) y = false := (List.pairwise_cons.1 hs).1 _ hm
      by_cases e : y = minT lt x r
      · rw [e]; rfl
      · have := tri _ _ e
        rw [h1, h2] at this
        cases this
end
/-- The entries that were not fired. -/
def unfired (l : List S38) : List S32 := (l.filter fun x => !x.f1).map (·.f0)
end Go.Proofs.Ytjkdfjkaeoklmaa.Q
namespace Go.Proofs.Ytjkdfjkaeoklmaa.Q
open Go.RowKit Go.Proofs.YtjkdfjkaeoklmaaW.PrintWords
set_option linter.unusedVariables false
set_option linter.unusedSimpArgs false
theorem ev_all {α β : Type} {g : α → Nat → Option β} {v : α → β} : ∀ (l : List α), (∀ x ∈ l, Ev (g x) (v x)) → ∃ K, ∀ k, K ≤ k → ∀ x ∈ l, g x k = some (v x)
  | [], _ => ⟨0, fun _ _ _ h => by cases h⟩
  | x :: l, h => by
    obtain ⟨K1, h1⟩ := h x (by simp)
    obtain ⟨K2, h2⟩ := ev_all l (fun y hy => h y (by simp [hy]))
    exact ⟨max K1 K2, fun k hk y hy => by
      rcases List.mem_cons.1 hy with rfl | hy
      · exact h1 k (by omega)
      · exact h2 k (by omega) y hy⟩
theorem ev_pairs {α β : Type} {g : α → α → Nat → Option β} {v : α → α → β} (l : List α) (h : ∀ x ∈ l, ∀ y ∈ l, Ev (g x y) (v x y)) : ∃ K, ∀ k, K ≤ k → ∀ x ∈ l, ∀ y ∈ l, g x y k = some (v x y) := by
  have h1 : ∀ x ∈ l, ∃ K, ∀ k, K ≤ k → ∀ y ∈ l, g x y k = some (v x y) := fun x hx => ev_all l (h x hx)
  have : ∀ l' : List α, (∀ x ∈ l', x ∈ l) → ∃ K, ∀ k, K ≤ k → ∀ x ∈ l', ∀ y ∈ l, g x y k = some (v x y) := by
    intro l'
    induction l' with
    | nil => exact fun _ => ⟨0, fun _ _ _ h => by cases h⟩
    | cons x l' ih =>
      intro hl
      obtain ⟨K1, e1⟩ := h1 x (hl x (by simp))
      obtain ⟨K2, e2⟩ := ih (fun y hy => hl y (by simp [hy]))
      exact ⟨max K1 K2, fun k hk z hz => by
        rcases List.mem_cons.1 hz with rfl | hz
        · exact e1 k (by omega)
        · exact e2 k (by omega) z hz⟩
  exact this l (fun _ h => h)
/-- Tags short enough. -/
def okInsts (l : List S32) : Prop := ∀ x ∈ l, x.f1.length ≤ 12
theorem sort_o_val (l0 : List S45) (h0 : okRules l0) (how : Int) (l : List S32) (hl : okInsts l) (h20 : l.length ≤ 20) : Ev (fun k => order_Sort.f k l0 how l) (sortL (lessP l0 how) l) := by
  obtain ⟨K, hK⟩ := ev_pairs (g := fun x y k => order_orderer_compare.f k l0 how x.f0 x.f1 y.f0 y.f1) (v := fun x y => compareP l0 how x y) l (fun x hx y hy => compare_val l0 h0 how x y (hl x hx) (hl y hy))
  refine ⟨K, fun k hk => ?_⟩
  have h := hK k hk
  simp only [order_Sort.f]
  rw [if_pos ⟨h20, List.all_eq_true.2 fun x hx => List.all_eq_true.2 fun y hy => by rw [h x hx y hy]; rfl⟩]
  congr 1
  exact sortL_congr (fun x hx y hy => by simp only [ltO, lessP, h x hx y hy])
theorem minL_val (l0 : List S45) (h0 : okRules l0) (how : Int) : ∀ (r : List S32) (m : S32), m.f1.length ≤ 12 → okInsts r → Ev (fun k => minL k l0 how m r) (minT (lessP l0 how) m r)
  | [], m, _, _ => Ev.now _
  | x :: r, m, hm, hr => by
    have hx := hr x (by simp)
    have hr' : okInsts r := fun y hy => hr y (by simp [hy])
    refine Ev.congr (f := fun k => (order_orderer_compare.f k l0 how x.f0 x.f1 m.f0 m.f1).bind fun t => if t < 0 then minL k l0 how x r else minL k l0 how m r) (fun k => by rw [minL]) ?_
    refine Ev.bind (compare_val l0 h0 how x m hx hm) ?_
    rw [minT]
    by_cases ht : compareP l0 how x m < 0
    · simp only [lessP, ht, decide_true, if_true]
      exact minL_val l0 h0 how r x hx hr'
    · simp only [lessP, ht, decide_false, if_false]
      exact minL_val l0 h0 how r m hm hr'
/-- What is chosen of some entries. -/
def selP (lt : S32 → S32 → Bool) (l : List S38) : Int × List Int × Bool := match unfired l with | [] => (0, [], false) | m :: r => ((minT lt m r).f0, (minT lt m r).f1, true)
def okEntries (l : List S38) : Prop := ∀ x ∈ l, x.f0.f1.length ≤ 12
theorem okEntries.un {l : List S38} (h : okEntries l) : okInsts (unfired l) := by
  intro x hx
  obtain ⟨y, hy, rfl⟩ := List.mem_map.1 hx
  exact h y (List.mem_filter.1 hy).1
theorem select_o_val (l0 : List S45) (h0 : okRules l0) (how : Int) (l : List S38) (hl : okEntries l) (hb : l.length < 4398046511104) : Ev (fun k => order_Select.f k l0 how l) (selP (lessP l0 how) l) := by
  refine Ev.congr (f := fun k => minOf k l0 how (unfired l)) (fun k => by rw [order_Select.f, if_pos hb]; rfl) ?_
  unfold selP
  have hu := hl.un
  cases hc : unfired l with
  | nil => exact Ev.now _
  | cons m r =>
    rw [hc] at hu
    refine Ev.congr (f := fun k => (minL k l0 how m r).bind fun m => some (m.f0, m.f1, true)) (fun k => by rw [minOf]) ?_
    exact Ev.bind (minL_val l0 h0 how r m (hu m (by simp)) (fun y hy => hu y (by simp [hy]))) (Ev.now _)
end Go.Proofs.Ytjkdfjkaeoklmaa.Q
namespace Go.Proofs.Ytjkdfjkaeoklmaa.Q
open Go.RowKit Go.Proofs.YtjkdfjkaeoklmaaW.PrintWords Go.Proofs.YtjkdfjkaeoklmaaW.PrintLast Go.Proofs.YtjkdfjkaeoklmaaW.PrintMore
set_option linter.unusedVariables false
set_option linter.unusedSimpArgs false
theorem inst23 (a : Int) (A : Option Addr) (n c : Nat) (w : World) : Calls Try.prog 23 #[.int .i64 a, .slice A n c] w fun e w' => e = .returned (.agg #[.int .i64 a, .slice A n c]) ∧ Below w.heap.size w w' := by
  go_enter Try.func23, Try.ntmps23
  go_wp2_with (first
    | ((with_reducible refine gate_dst (N := 4) rfl ?_)
       refine box_event ?hg (N := 4) ?hd (cs := #[.int .i64 0, .slice none 0 0]) (t := 32) ?hr ?_
       (case hd => rfl)
       (case hg => rfl)
       (case hr => first | (go_simp; done) | (go_simp; rfl))
       intro g4 hg4 w4 hbox4 hb4
       have hcz_0 : w4.cell? ⟨g4, 0, none⟩ = some (.int .i64 0) := (blk_cell hbox4 0).trans rfl
       have hcz_1 : w4.cell? ⟨g4, 1, none⟩ = some (.slice none 0 0) := (blk_cell hbox4 1).trans rfl
       have hfz_0 := blk_frozen hbox4 0
       have hfz_1 := blk_frozen hbox4 1
       have BK4 := Aside0.mk (And.intro hg4 (And.intro hbox4 hb4))
       clear hg4 hbox4 hb4))
  refine bodyPost_ret (results_single rfl (.cell g4 32 #[.int .i64 a, .slice A n c] (0, 0) _ rfl (blk_put (blk_put BK4.out.2.1 0 _ rfl) 1 _ rfl) Try.underlying32 rfl (by kernel_rfl) .nil)) rfl ?_
  exact ⟨rfl, below_set (below_set BK4.out.2.2 (Nat.le_of_eq BK4.out.1.symm)) (Nat.le_of_eq BK4.out.1.symm)⟩
end Go.Proofs.Ytjkdfjkaeoklmaa.Q
namespace Go.Proofs.Ytjkdfjkaeoklmaa.Q
open Go.RowKit Go.Proofs.YtjkdfjkaeoklmaaW.PrintWords
set_option linter.unusedVariables false
set_option linter.unusedSimpArgs false
theorem rec_eq (l r : List Int) (hp : r.Perm (l.filter pos?)) (hs : r.reverse.Pairwise (· ≤ ·)) : recency l = r := by
  unfold recency
  rw [← srt_eq ((List.reverse_perm r).trans hp) hs, List.reverse_reverse]
theorem rc22 : recency [2, 2] = [2, 2] := rec_eq _ _ (by decide) (by decide)
theorem rc31 : recency [3, 1] = [3, 1] := rec_eq _ _ (by decide) (by decide)
theorem rc3 : recency [3] = [3] := rec_eq _ _ (by decide) (by decide)
theorem rc21 : recency [2, 1] = [2, 1] := rec_eq _ _ (by decide) (by decide)
theorem rc19 : recency [1, 9] = [9, 1] := rec_eq _ _ (by decide) (by decide)
theorem rc103 : recency [1, 0, 3] = [3, 1] := rec_eq _ _ (by decide) (by decide)
theorem okNil : okRules [] := ⟨by decide, by simp⟩
def awE : List S38 := [⟨⟨0, [9]⟩, true⟩, ⟨⟨0, [2, 2]⟩, false⟩, ⟨⟨1, [3, 1]⟩, false⟩, ⟨⟨0, [3]⟩, false⟩]
theorem aw_sel : selP (lessP [] 0) awE = (1, [3, 1], true) := by
  simp [selP, unfired, awE, minT, lessP, compareP, orP, rc22, rc31, rc3, cmpL, cmpI, strAt]
theorem aw_less1 : lessP [] 0 ⟨0, [3, 1]⟩ ⟨0, [3]⟩ = true := by
  simp [lessP, compareP, orP, rc31, rc3, cmpL, cmpI, strAt]
theorem aw_less2 : lessP [] 1 ⟨0, [2, 1]⟩ ⟨0, [1, 9]⟩ = true := by
  simp [lessP, compareP, orP, rc21, rc19, cmpL, cmpI, strAt, firstP]
theorem aw_less3 : lessP [] 0 ⟨0, [2, 1]⟩ ⟨0, [1, 9]⟩ = false := by
  simp [lessP, compareP, orP, rc21, rc19, cmpL, cmpI, strAt, firstP]
theorem same_l0 (l m : List Int) (hl : l.length = m.length) (hb : l.length ≤ 9223372036854775807) : ∀ (n i : Nat), l.length - i = n → i ≤ l.length → l.take i = m.take i → Ev (fun k => intarsiaref21_SameInts.l0 k l m (i : Int)) (decide (l = m))
  | 0, i, hn, hi, ht => by
    obtain rfl : i = l.length := by omega
    refine one_round (fun k => ?_)
    simp only [intarsiaref21_SameInts.l0]
    rw [if_neg (by omega)]
    rw [List.take_length, hl, List.take_length] at ht
    rw [decide_eq_true ht]
  | n + 1, i, hn, hi, ht => by
    have hlt : i < l.length := by omega
    have hlm : i < m.length := by omega
    by_cases hc : l[i] = m[i]
    · refine Ev.step (fun k => ?_) (same_l0 l m hl hb n (i + 1) (by omega) (by omega) (by rw [List.take_succ_eq_append_getElem hlt, List.take_succ_eq_append_getElem hlm, ht, hc]))
      simp only [intarsiaref21_SameInts.l0]
      rw [if_pos (by omega), if_pos (by omega), if_pos (by omega), rd_at hlt, rd_at hlm, if_pos hc, w64 (by omega) (by omega)]
      rfl
    · have : decide (l = m) = false := decide_eq_false (fun e => by subst e; exact hc rfl)
      rw [this]
      refine one_round (fun k => ?_)
      simp only [intarsiaref21_SameInts.l0]
      rw [if_pos (by omega), if_pos (by omega), if_pos (by omega), rd_at hlt, rd_at hlm, if_neg hc]
theorem same_val (l m : List Int) (hb : l.length ≤ 9223372036854775807) : Ev (fun k => intarsiaref21_SameInts.f k l m) (decide (l = m)) := by
  by_cases h : l.length = m.length
  · refine Ev.congr (f := fun k => intarsiaref21_SameInts.l0 k l m ((0 : Nat) : Int)) (fun k => ?_) (same_l0 l m h hb _ 0 rfl (Nat.zero_le _) rfl)
    rw [intarsiaref21_SameInts.f, if_pos (by omega)]
    rfl
  · have : decide (l = m) = false := decide_eq_false (fun e => h (by rw [e]))
    rw [this]
    refine Ev.congr (f := fun _ => some false) (fun k => ?_) (Ev.now _)
    rw [intarsiaref21_SameInts.f, if_neg (by omega)]
end Go.Proofs.Ytjkdfjkaeoklmaa.Q
