import Derived.Test.YtjkdfjkaeoklmaaS8
import Derived.Test.YtjkdfjkaeoklmaaS4
import Derived.Test.YtjkdfjkaeoklmaaS2
import Derived.Test.YtjkdfjkaeoklmaaS7
namespace Go.Proofs.Ytjkdfjkaeoklmaa.Q
open Go.RowKit Go.Proofs.YtjkdfjkaeoklmaaW.PrintWords Go.Proofs.YtjkdfjkaeoklmaaW.PrintLast Go.Proofs.YtjkdfjkaeoklmaaW.PrintMore
set_option linter.unusedVariables false
set_option linter.unusedSimpArgs false
/-- The first of those that no later one comes ahead of, as the loop finds it. -/
def bestL (lt : S32 → S32 → Bool) : S32 → Bool → List S38 → S32 × Bool
  | b, s, [] => (b, s)
  | b, s, x :: r => if x.f1 = false ∧ (s = false ∨ lt x.f0 b = true) then bestL lt x.f0 true r else bestL lt b s r
def intarsiaref26_Select.f (k : Nat) (l0 : List S45) (a1 : Int) (l2 : List S38) : Option (Int × List Int × Bool) :=
  if (l2.all fun x => l2.all fun y => (intarsiaref26_Less.f k l0 a1 x.f0.f0 x.f0.f1 y.f0.f0 y.f0.f1).isSome) = true then some ((bestL (ltR k l0 a1) ⟨0, []⟩ false l2).1.f0, (bestL (ltR k l0 a1) ⟨0, []⟩ false l2).1.f1, (bestL (ltR k l0 a1) ⟨0, []⟩ false l2).2) else none
theorem bestL_congr {lt lt' : S32 → S32 → Bool} {L : List S38} (h : ∀ x ∈ L, ∀ y ∈ L, lt x.f0 y.f0 = lt' x.f0 y.f0) : ∀ (r : List S38) (b : S32) (s : Bool), (∀ x ∈ r, x ∈ L) → (s = true → ∃ y ∈ L, y.f0 = b) → bestL lt b s r = bestL lt' b s r
  | [], _, _, _, _ => rfl
  | x :: r, b, s, hr, hb => by
    have hx := hr x (by simp)
    have e : (x.f1 = false ∧ (s = false ∨ lt x.f0 b = true)) ↔ (x.f1 = false ∧ (s = false ∨ lt' x.f0 b = true)) := by
      cases s with
      | false => simp
      | true =>
        obtain ⟨y, hy, rfl⟩ := hb rfl
        rw [h x hx y hy]
    rw [bestL, bestL]
    by_cases hc : x.f1 = false ∧ (s = false ∨ lt' x.f0 b = true)
    · rw [if_pos (e.2 hc), if_pos hc]
      exact bestL_congr h r _ _ (fun y hy => hr y (by simp [hy])) (fun _ => ⟨x, hx, rfl⟩)
    · rw [if_neg (fun h => hc (e.1 h)), if_neg hc]
      exact bestL_congr h r _ _ (fun y hy => hr y (by simp [hy])) hb
theorem intarsiaref26_Select.mono : ∀ a0 a1 a2 k, LeO (intarsiaref26_Select.f k a0 a1 a2) (intarsiaref26_Select.f (k + 1) a0 a1 a2) := by
  intro a0 a1 a2 k r h
  unfold intarsiaref26_Select.f at h ⊢
  split at h
  · rename_i h2
    have h2' : ∀ x ∈ a2, ∀ y ∈ a2, (intarsiaref26_Less.f k a0 a1 x.f0.f0 x.f0.f1 y.f0.f0 y.f0.f1).isSome = true := fun x hx y hy => List.all_eq_true.1 (List.all_eq_true.1 h2 x hx) y hy
    rw [if_pos (List.all_eq_true.2 fun x hx => List.all_eq_true.2 fun y hy => (ltR_mono k a0 a1 x.f0 y.f0 (h2' x hx y hy)).1), ← h]
    rw [bestL_congr (L := a2) (lt := ltR (k + 1) a0 a1) (lt' := ltR k a0 a1) (fun x hx y hy => (ltR_mono k a0 a1 x.f0 y.f0 (h2' x hx y hy)).2) a2 _ _ (fun _ h => h) (by simp)]
  · cases h
theorem elem38r {W : World} {base n c : Nat} {P : Nat → Prop} {A : Option Addr} {l : List S38} (h : Kd.V k38 38 W base P (.slice A n c) l) (i : Nat) (hi : i < l.length) {At : Option Addr} {ct : Nat} (hK : Kd.FK k32 W P l[i].f0 [.int .i64 l[i].f0.f0, .slice At l[i].f0.f1.length ct]) :
    l[i].f0.f1.length ≤ ct ∧ (Kd.int .i64).C W At l[i].f0.f1.length l[i].f0.f1 := by
  obtain ⟨A1, c1, e, h1, h2⟩ := k32_open (Kd.FK_now hK)
  injection e with _ e
  injection e with e _
  injection e with e1 e2 e3
  subst e1; subst e3
  exact ⟨h1, h2⟩

set_option maxHeartbeats 4000000 in
set_option maxRecDepth 100000 in
theorem intarsiaref26_Select.calls (k : Nat) (A0 : Option Addr) (c0 : Nat) (l0 : List (S45)) (a1 : Int) (P2_ : Nat → Prop) (A2 : Option Addr) (c2 : Nat) (l2 : List (S38)) (r1 : Int) (r2 : List Int) (r3 : Bool) (w : World) (hr0 : Kd.C k45 w A0 l0.length l0) (hc0 : l0.length ≤ c0) (hs2 : Kd.V k38 38 w w.heap.size (fun k_ => P2_ k_) (.slice A2 l2.length c2) l2) (h : intarsiaref26_Select.f k l0 a1 l2 = some (r1, r2, r3)) :
    Calls Try.prog 20 #[.slice A0 l0.length c0, .int .u8 a1, .slice A2 l2.length c2] w fun e w' => ∃ v1_ : Value, e = .returned (.tuple #[.agg #[.int .i64 r1, v1_], .bool r3]) ∧ Kd.V (Kd.int .i64) 3 w' w.heap.size (fun k_ => (P2_ k_ ∨ w.heap.size ≤ k_)) v1_ r2 ∧ Below w.heap.size w w' := by
  unfold intarsiaref26_Select.f at h
  split at h
  case isFalse => cases h
  rename_i h2
  obtain ⟨p, hp⟩ : ∃ p, p = bestL (ltR k l0 a1) ⟨0, []⟩ false l2 := ⟨_, rfl⟩
  rw [← hp] at h
  obtain ⟨rfl, h3⟩ := Prod.mk.inj (Option.some.inj h)
  obtain ⟨rfl, rfl⟩ := Prod.mk.inj h3
  have HA := Aside0.mk (show ∀ x ∈ l2, ∀ y ∈ l2, (intarsiaref26_Less.f k l0 a1 x.f0.f0 x.f0.f1 y.f0.f0 y.f0.f1).isSome = true from fun x hx y hy => List.all_eq_true.1 (List.all_eq_true.1 h2 x hx) y hy)
  have HR0 := Aside0.mk hr0
  have HS := Aside0.mk hs2
  have HP := Aside0.mk hp
  have hm : l2.length ≤ 9223372036854775807 := Kd.F_max (Kd.V_F hs2)
  clear h h2 h3 hr0 hs2 hp
  go_enter Try.func20, Try.ntmps20
  go_wp2_with (first
    | ((with_reducible refine gate_dst (N := 6) rfl ?_)
       refine box_event ?hg (N := 6) ?hd (cs := #[.int .i64 0, .slice none 0 0]) (t := 32) ?hr ?_
       (case hd => rfl)
       (case hg => rfl)
       (case hr => first | (go_simp; done) | (go_simp; rfl))
       intro g6 hg6 w6 hbox6 hb6
       have BK6 := Aside0.mk (And.intro hg6 (And.intro hbox6 hb6))
       clear hg6 hbox6 hb6)
    | ((with_reducible refine gate_dst (N := 8) rfl ?_)
       refine box_event ?hg (N := 8) ?hd (cs := #[.int .i64 0, .slice none 0 0]) (t := 32) ?hr ?_
       (case hd => rfl)
       (case hg => rfl)
       (case hr => first | (go_simp; done) | (go_simp; rfl))
       intro g8 hg8 w8 hbox8 hb8
       have hcz_0 : w8.cell? ⟨g8, 0, none⟩ = some (.int .i64 0) := (blk_cell hbox8 0).trans rfl
       have hcz_1 : w8.cell? ⟨g8, 1, none⟩ = some (.slice none 0 0) := (blk_cell hbox8 1).trans rfl
       have hfz_0 := blk_frozen hbox8 0
       have hfz_1 := blk_frozen hbox8 1
       have BK8 := Aside0.mk (And.intro hg8 (And.intro hbox8 hb8))
       clear hg8 hbox8 hb8))
  have hw6 : w.heap.size ≤ g6 := Nat.le_of_eq BK6.out.1.symm
  have hg68 : g6 < g8 := by
    have h1 := BK8.out.1
    have h2 := blk_lt BK6.out.2.1
    omega
  have hgn1 : g6 ≠ g8 := by omega
  have hw8 : w.heap.size ≤ g8 := by omega
  have HB8 := Aside0.mk (show Below w.heap.size w w8 from below_step BK6.out.2.2 BK8.out.2.2)
  clear hcz_0 hcz_1 hfz_0 hfz_1
  go_loopw [9, 10] (fun v9 v10 wr => ∃ (i : Nat) (s : Bool) (b : S32) (Ab : Option Addr) (cb : Nat), v9 = .bool s ∧ v10 = .int .i64 i ∧ i ≤ l2.length ∧ Aside0 (wr.heap[g8]? = some (.cells #[.int .i64 b.f0, .slice Ab b.f1.length cb] 32 (0, 0))) ∧ Aside0 (Kd.FK k32 w P2_ b [.int .i64 b.f0, .slice Ab b.f1.length cb]) ∧ Aside0 (s = true → ∃ y ∈ l2, y.f0 = b) ∧ Aside0 (bestL (ltR k l0 a1) b s (l2.drop i) = p) ∧ Aside0 (Below w.heap.size w wr) ∧ Aside0 (wr.heap[g6]? = some (.cells #[.int .i64 0, .slice none 0 0] 32 (0, 0)))) (fun _ v10 _ => l2.length - (intOf v10).toNat)
  case atStart =>
    refine ⟨0, false, ⟨0, []⟩, none, 0, rfl, rfl, Nat.zero_le _, ⟨?_⟩, ⟨?_⟩, ⟨by simp⟩, ⟨HP.out.symm⟩, ⟨?_⟩, ⟨?_⟩⟩
    · exact blk_put (blk_put BK8.out.2.1 0 _ rfl) 1 _ rfl
    · exact k32_mkF w _ _ (Nat.le_refl _) (Kd.F_nil _ _ _)
    · exact below_set (below_set HB8.out hw8) hw8
    · exact blk_far (blk_far (blk_below BK6.out.2.1 BK8.out.2.2) hgn1 _) hgn1 _
  case round =>
    obtain ⟨i, s, b, Ab, cb, rfl, rfl, hi, HG, HK, HS2, HE, HB, HG6⟩ := hrel
    by_cases hlt : i < l2.length
    · obtain ⟨ad, At, ct, rfl, hFK, hx0, hx1, hx2⟩ := elem38 HS.out i hlt
      have HFK := Aside0.mk hFK
      clear hFK
      have q1 : (i : Int) < (l2.length : Int) := by omega
      have q2 : (0 : Int) ≤ (i : Int) := by omega
      replace hx0 := (HB.out.cell (World.block_lt_of_cell? _ _ hx0)).trans hx0
      replace hx1 := (HB.out.cell (World.block_lt_of_cell? _ _ hx1)).trans hx1
      replace hx2 := (HB.out.cell (World.block_lt_of_cell? _ _ hx2)).trans hx2
      cases hf : l2[i].f1 with
      | true =>
        rw [hf] at hx2
        go_wp2_with fail
        go_quiet (fail)
        go_wp2_with fail
        go_roundw
        case rel =>
          refine ⟨i + 1, s, b, Ab, cb, rfl, by first | rfl | go_num, by omega, ⟨blk_below HG.out (pw_below_drewN (Below.refl wr.heap.size wr) nq)⟩, HK, HS2, ⟨?_⟩, ⟨below_step HB.out (pw_below_drewN (Below.refl wr.heap.size wr) nq)⟩, ⟨blk_below HG6.out (pw_below_drewN (Below.refl wr.heap.size wr) nq)⟩⟩
          rw [← HE.out, List.drop_eq_getElem_cons hlt, bestL, if_neg (fun h => by rw [hf] at h; cases h.1)]
        case measure => simp [intOf]; omega
      | false =>
        rw [hf] at hx2
        cases s with
        | false =>
          go_wp2_with fail
          go_quiet (fail)
          have hk8 := blk_drewN HG.out nq
          have hm0 : (wr.drewN nq).cell? ⟨g8, 0, none⟩ = some (.int .i64 b.f0) := (blk_cell hk8 0).trans rfl
          have hm1 : (wr.drewN nq).cell? ⟨g8, 1, none⟩ = some (.slice Ab b.f1.length cb) := (blk_cell hk8 1).trans rfl
          have hf0 := blk_frozen hk8 0
          have hf1 := blk_frozen hk8 1
          have HK8 := Aside0.mk hk8
          clear hk8
          obtain ⟨W, hW⟩ : ∃ W : World, wr.drewN nq = W := ⟨_, rfl⟩
          have HBX := Aside0.mk (show Below wr.heap.size wr W by rw [← hW]; exact pw_below_drewN (Below.refl wr.heap.size wr) nq)
          replace hx0 := (HBX.out.cell (World.block_lt_of_cell? _ _ hx0)).trans hx0
          replace hx1 := (HBX.out.cell (World.block_lt_of_cell? _ _ hx1)).trans hx1
          rw [hW] at hm0 hm1 hf0 hf1 ⊢
          clear hW
          go_wp2_with fail
          go_roundw
          case rel =>
            refine ⟨i + 1, true, l2[i].f0, At, ct, rfl, by first | rfl | go_num, by omega, ⟨?_⟩, HFK, ⟨fun _ => ⟨l2[i], List.getElem_mem _, rfl⟩⟩, ⟨?_⟩, ⟨?_⟩, ⟨?_⟩⟩
            · exact blk_put (blk_put (blk_below HG.out HBX.out) 0 _ rfl) 1 _ rfl
            · rw [← HE.out, List.drop_eq_getElem_cons hlt, bestL, if_pos ⟨hf, .inl rfl⟩]
            · exact below_set (below_set (below_step HB.out HBX.out) hw8) hw8
            · exact blk_far (blk_far (blk_below HG6.out HBX.out) hgn1 _) hgn1 _
          case measure => simp [intOf]; omega
        | true =>
          obtain ⟨y0, hy0, rfl⟩ := HS2.out rfl
          obtain ⟨t, ht⟩ := Option.isSome_iff_exists.1 (HA.out l2[i] (List.getElem_mem _) y0 hy0)
          have hlt' : ltR k l0 a1 l2[i].f0 y0.f0 = t := by simp only [ltR, ht]
          have HT := Aside0.mk ht
          have HL := Aside0.mk hlt'
          clear ht hlt'
          have HX := Aside0.mk (elem38r HS.out i hlt HFK.out)
          have HY := Aside0.mk (show y0.f0.f1.length ≤ cb ∧ (Kd.int .i64).C w Ab y0.f0.f1.length y0.f0.f1 by
            obtain ⟨A1, c1, e, h1, h2⟩ := k32_open (Kd.FK_now HK.out)
            injection e with _ e
            injection e with e _
            injection e with e1 e2 e3
            subst e1; subst e3
            exact ⟨h1, h2⟩)
          have hm0 : wr.cell? ⟨g8, 0, none⟩ = some (.int .i64 y0.f0.f0) := (blk_cell HG.out 0).trans rfl
          have hm1 : wr.cell? ⟨g8, 1, none⟩ = some (.slice Ab y0.f0.f1.length cb) := (blk_cell HG.out 1).trans rfl
          have bx0 := BelowOf.cell hx0
          have bx1 := BelowOf.cell hx1
          have bx2 := BelowOf.cell hx2
          have by0 := BelowOf.cell hm0
          have by1 := BelowOf.cell hm1
          go_wp2_with fail
          refine wp_region_below (by kernel_rfl) (by kernel_rfl) ?_
          repeat (quiet_step (first
            | (refine below_of (intarsiaref26_Less.calls k _ _ l0 a1 _ _ _ _ _ _ _ _ t _ ?s1 ?s2 ?s3 ?s4 ?s5 ?s6 HT.out)
               (case s1 => exact Kd.C_below HR0.out (below_step HB.out (BelowOf.h _)))
               (case s2 => exact hc0)
               (case s3 => exact Kd.C_below HX.out.2 (below_step HB.out (BelowOf.h _)))
               (case s4 => exact HX.out.1)
               (case s5 => exact Kd.C_below HY.out.2 (below_step HB.out (BelowOf.h _)))
               (case s6 => exact HY.out.1))))
          refine wpQuiet_nil ?_
          intro _ hw'
          obtain ⟨pq, hw''⟩ := hw'
          subst hw''
          clear bx0 bx1 bx2 by0 by1
          have HBX := Aside0.mk (show Below wr.heap.size wr pq.v from pq.h)
          have hk8 := blk_below HG.out HBX.out
          replace hm0 := BelowOf.cell hm0 pq
          replace hm1 := BelowOf.cell hm1 pq
          have hf0 := blk_frozen hk8 0
          have hf1 := blk_frozen hk8 1
          replace hx0 := BelowOf.cell hx0 pq
          replace hx1 := BelowOf.cell hx1 pq
          clear hk8
          cases t with
          | true =>
            go_wp2_with fail
            go_roundw
            case rel =>
              refine ⟨i + 1, true, l2[i].f0, At, ct, rfl, by first | rfl | go_num, by omega, ⟨?_⟩, HFK, ⟨fun _ => ⟨l2[i], List.getElem_mem _, rfl⟩⟩, ⟨?_⟩, ⟨?_⟩, ⟨?_⟩⟩
              · exact blk_put (blk_put (blk_below HG.out HBX.out) 0 _ rfl) 1 _ rfl
              · rw [← HE.out, List.drop_eq_getElem_cons hlt, bestL, if_pos ⟨hf, .inr HL.out⟩]
              · exact below_set (below_set (below_step HB.out HBX.out) hw8) hw8
              · exact blk_far (blk_far (blk_below HG6.out HBX.out) hgn1 _) hgn1 _
            case measure => simp [intOf]; omega
          | false =>
            go_wp2_with fail
            go_roundw
            case rel =>
              refine ⟨i + 1, true, y0.f0, Ab, cb, rfl, by first | rfl | go_num, by omega, ⟨blk_below HG.out HBX.out⟩, HK, ⟨fun _ => ⟨y0, hy0, rfl⟩⟩, ⟨?_⟩, ⟨below_step HB.out HBX.out⟩, ⟨blk_below HG6.out HBX.out⟩⟩
              rw [← HE.out, List.drop_eq_getElem_cons hlt, bestL, if_neg (fun h => by rcases h.2 with h | h; cases h; rw [HL.out] at h; cases h)]
            case measure => simp [intOf]; omega
    · obtain rfl : i = l2.length := by omega
      have hm0 : wr.cell? ⟨g8, 0, none⟩ = some (.int .i64 b.f0) := (blk_cell HG.out 0).trans rfl
      have hm1 : wr.cell? ⟨g8, 1, none⟩ = some (.slice Ab b.f1.length cb) := (blk_cell HG.out 1).trans rfl
      have hn0 : wr.cell? ⟨g6, 0, none⟩ = some (.int .i64 0) := (blk_cell HG6.out 0).trans rfl
      have hn1 : wr.cell? ⟨g6, 1, none⟩ = some (.slice none 0 0) := (blk_cell HG6.out 1).trans rfl
      have hf0 := blk_frozen HG6.out 0
      have hf1 := blk_frozen HG6.out 1
      go_wp2_with fail
      have e := HE.out
      rw [List.drop_length, bestL] at e
      subst e
      refine bodyPost_ret (results_ct rfl _ _ g6 32 #[.int .i64 b.f0, .slice Ab b.f1.length cb] (0, 0) _ rfl (blk_put (blk_put HG6.out 0 _ rfl) 1 _ rfl) Try.underlying32 rfl (by kernel_rfl)) rfl ?_
      have hB := below_set (below_set HB.out hw6 (j := 0) (v := .int .i64 b.f0)) hw6 (j := 1) (v := .slice Ab b.f1.length cb)
      obtain ⟨A1, c1, e, h1, h2⟩ := k32_openF HK.out
      injection e with _ e
      injection e with e _
      injection e with e1 e2 e3
      subst e1; subst e3
      exact ⟨_, rfl, Kd.V_mk h1 (Kd.F_mono (Kd.F_below h2 hB) (fun _ h => .inl h)), hB⟩
end Go.Proofs.Ytjkdfjkaeoklmaa.Q
namespace Go.Proofs.Ytjkdfjkaeoklmaa.Q
open Go.RowKit Go.Proofs.YtjkdfjkaeoklmaaW.PrintWords
set_option linter.unusedVariables false
set_option linter.unusedSimpArgs false
section
variable {lt : S32 → S32 → Bool}
/-- None comes ahead of one before it. -/
def Sorted (lt : S32 → S32 → Bool) (l : List S32) : Prop := l.Pairwise (fun a b => lt b a = false)
variable (irr : ∀ x, lt x x = false) (tri : ∀ x y, x ≠ y → lt x y = !lt y x) (tr : ∀ x y z, lt x y = true → lt y z = true → lt x z = true)
end
/-- The least one, told on. -/
def minT (lt : S32 → S32 → Bool) : S32 → List S32 → S32
  | m, [] => m
  | m, x :: r => if lt x m = true then minT lt x r else minT lt m r
section
variable {lt : S32 → S32 → Bool} (irr : ∀ x, lt x x = false) (tri : ∀ x y, x ≠ y → lt x y = !lt y x) (tr : ∀ x y z, lt x y = true → lt y z = true → lt x z = true)
end
/-- The entries that were not fired. -/
def unfired (l : List S38) : List S32 := (l.filter fun x => !x.f1).map (·.f0)
end Go.Proofs.Ytjkdfjkaeoklmaa.Q
namespace Go.Proofs.Ytjkdfjkaeoklmaa.Q
open Go.RowKit Go.Proofs.YtjkdfjkaeoklmaaW.PrintWords
set_option linter.unusedVariables false
set_option linter.unusedSimpArgs false
theorem ev_all {α β : Type} {g : α → Nat → Option β} {v : α → β} : ∀ (l : List α), (∀ x ∈ l, Ev (g x) (v x)) → ∃ K, ∀ k, K ≤ k → ∀ x ∈ l, g x k = some (v x)
  | [], _ => ⟨0, fun _ _ _ h => by cases h⟩
  | x :: l, h => by
    obtain ⟨K1, h1⟩ := h x (by simp)
    obtain ⟨K2, h2⟩ := ev_all l (fun y hy => h y (by simp [hy]))
    exact ⟨max K1 K2, fun k hk y hy => by
      rcases List.mem_cons.1 hy with rfl | hy
      · exact h1 k (by omega)
      · exact h2 k (by omega) y hy⟩
theorem ev_pairs {α β : Type} {g : α → α → Nat → Option β} {v : α → α → β} (l : List α) (h : ∀ x ∈ l, ∀ y ∈ l, Ev (g x y) (v x y)) : ∃ K, ∀ k, K ≤ k → ∀ x ∈ l, ∀ y ∈ l, g x y k = some (v x y) := by
  have h1 : ∀ x ∈ l, ∃ K, ∀ k, K ≤ k → ∀ y ∈ l, g x y k = some (v x y) := fun x hx => ev_all l (h x hx)
  have : ∀ l' : List α, (∀ x ∈ l', x ∈ l) → ∃ K, ∀ k, K ≤ k → ∀ x ∈ l', ∀ y ∈ l, g x y k = some (v x y) := by
    intro l'
    induction l' with
    | nil => exact fun _ => ⟨0, fun _ _ _ h => by cases h⟩
    | cons x l' ih =>
      intro hl
      obtain ⟨K1, e1⟩ := h1 x (hl x (by simp))
      obtain ⟨K2, e2⟩ := ih (fun y hy => hl y (by simp [hy]))
      exact ⟨max K1 K2, fun k hk z hz => by
        rcases List.mem_cons.1 hz with rfl | hz
        · exact e1 k (by omega)
        · exact e2 k (by omega) z hz⟩
  exact this l (fun _ h => h)
/-- Tags short enough. -/
def okInsts (l : List S32) : Prop := ∀ x ∈ l, x.f1.length ≤ 12
theorem sort_o_val (l0 : List S45) (h0 : okRules l0) (how : Int) (l : List S32) (hl : okInsts l) (h20 : l.length ≤ 20) : Ev (fun k => order_Sort.f k l0 how l) (sortL (lessP l0 how) l) := by
  obtain ⟨K, hK⟩ := ev_pairs (g := fun x y k => order_orderer_compare.f k l0 how x.f0 x.f1 y.f0 y.f1) (v := fun x y => compareP l0 how x y) l (fun x hx y hy => compare_val l0 h0 how x y (hl x hx) (hl y hy))
  refine ⟨K, fun k hk => ?_⟩
  have h := hK k hk
  simp only [order_Sort.f]
  rw [if_pos ⟨h20, List.all_eq_true.2 fun x hx => List.all_eq_true.2 fun y hy => by rw [h x hx y hy]; rfl⟩]
  congr 1
  exact sortL_congr (fun x hx y hy => by simp only [ltO, lessP, h x hx y hy])
theorem sort_r_val (l0 : List S45) (h0 : okRules l0) (how : Int) (l : List S32) (hl : okInsts l) (h20 : l.length ≤ 20) : Ev (fun k => intarsiaref26_Sort.f k l0 how l) (sortL (lessP l0 how) l) := by
  obtain ⟨K, hK⟩ := ev_pairs (g := fun x y k => intarsiaref26_Less.f k l0 how x.f0 x.f1 y.f0 y.f1) (v := fun x y => lessP l0 how x y) l (fun x hx y hy => less_r_val l0 h0 how x y (hl x hx) (hl y hy))
  refine ⟨K, fun k hk => ?_⟩
  have h := hK k hk
  simp only [intarsiaref26_Sort.f]
  rw [if_pos ⟨h20, List.all_eq_true.2 fun x hx => List.all_eq_true.2 fun y hy => by rw [h x hx y hy]; rfl⟩]
  congr 1
  exact sortL_congr (fun x hx y hy => by simp only [ltR, h x hx y hy])
theorem minL_val (l0 : List S45) (h0 : okRules l0) (how : Int) : ∀ (r : List S32) (m : S32), m.f1.length ≤ 12 → okInsts r → Ev (fun k => minL k l0 how m r) (minT (lessP l0 how) m r)
  | [], m, _, _ => Ev.now _
  | x :: r, m, hm, hr => by
    have hx := hr x (by simp)
    have hr' : okInsts r := fun y hy => hr y (by simp [hy])
    refine Ev.congr (f := fun k => (order_orderer_compare.f k l0 how x.f0 x.f1 m.f0 m.f1).bind fun t => if t < 0 then minL k l0 how x r else minL k l0 how m r) (fun k => by rw [minL]) ?_
    refine Ev.bind (compare_val l0 h0 how x m hx hm) ?_
    rw [minT]
    by_cases ht : compareP l0 how x m < 0
    · simp only [lessP, ht, decide_true, if_true]
      exact minL_val l0 h0 how r x hx hr'
    · simp only [lessP, ht, decide_false, if_false]
      exact minL_val l0 h0 how r m hm hr'
/-- What is chosen of some entries. -/
def selP (lt : S32 → S32 → Bool) (l : List S38) : Int × List Int × Bool := match unfired l with | [] => (0, [], false) | m :: r => ((minT lt m r).f0, (minT lt m r).f1, true)
def okEntries (l : List S38) : Prop := ∀ x ∈ l, x.f0.f1.length ≤ 12
theorem okEntries.un {l : List S38} (h : okEntries l) : okInsts (unfired l) := by
  intro x hx
  obtain ⟨y, hy, rfl⟩ := List.mem_map.1 hx
  exact h y (List.mem_filter.1 hy).1
theorem select_o_val (l0 : List S45) (h0 : okRules l0) (how : Int) (l : List S38) (hl : okEntries l) (hb : l.length < 4398046511104) : Ev (fun k => order_Select.f k l0 how l) (selP (lessP l0 how) l) := by
  refine Ev.congr (f := fun k => minOf k l0 how (unfired l)) (fun k => by rw [order_Select.f, if_pos hb]; rfl) ?_
  unfold selP
  have hu := hl.un
  cases hc : unfired l with
  | nil => exact Ev.now _
  | cons m r =>
    rw [hc] at hu
    refine Ev.congr (f := fun k => (minL k l0 how m r).bind fun m => some (m.f0, m.f1, true)) (fun k => by rw [minOf]) ?_
    exact Ev.bind (minL_val l0 h0 how r m (hu m (by simp)) (fun y hy => hu y (by simp [hy]))) (Ev.now _)
end Go.Proofs.Ytjkdfjkaeoklmaa.Q
namespace Go.Proofs.Ytjkdfjkaeoklmaa.Q
open Go.RowKit Go.Proofs.YtjkdfjkaeoklmaaW.PrintWords Go.Proofs.YtjkdfjkaeoklmaaW.PrintLast Go.Proofs.YtjkdfjkaeoklmaaW.PrintMore
set_option linter.unusedVariables false
set_option linter.unusedSimpArgs false
theorem inst23 (a : Int) (A : Option Addr) (n c : Nat) (w : World) : Calls Try.prog 23 #[.int .i64 a, .slice A n c] w fun e w' => e = .returned (.agg #[.int .i64 a, .slice A n c]) ∧ Below w.heap.size w w' := by
  go_enter Try.func23, Try.ntmps23
  go_wp2_with (first
    | ((with_reducible refine gate_dst (N := 4) rfl ?_)
       refine box_event ?hg (N := 4) ?hd (cs := #[.int .i64 0, .slice none 0 0]) (t := 32) ?hr ?_
       (case hd => rfl)
       (case hg => rfl)
       (case hr => first | (go_simp; done) | (go_simp; rfl))
       intro g4 hg4 w4 hbox4 hb4
       have hcz_0 : w4.cell? ⟨g4, 0, none⟩ = some (.int .i64 0) := (blk_cell hbox4 0).trans rfl
       have hcz_1 : w4.cell? ⟨g4, 1, none⟩ = some (.slice none 0 0) := (blk_cell hbox4 1).trans rfl
       have hfz_0 := blk_frozen hbox4 0
       have hfz_1 := blk_frozen hbox4 1
       have BK4 := Aside0.mk (And.intro hg4 (And.intro hbox4 hb4))
       clear hg4 hbox4 hb4))
  refine bodyPost_ret (results_single rfl (.cell g4 32 #[.int .i64 a, .slice A n c] (0, 0) _ rfl (blk_put (blk_put BK4.out.2.1 0 _ rfl) 1 _ rfl) Try.underlying32 rfl (by kernel_rfl) .nil)) rfl ?_
  exact ⟨rfl, below_set (below_set BK4.out.2.2 (Nat.le_of_eq BK4.out.1.symm)) (Nat.le_of_eq BK4.out.1.symm)⟩
end Go.Proofs.Ytjkdfjkaeoklmaa.Q
namespace Go.Proofs.Ytjkdfjkaeoklmaa.Q
open Go.RowKit Go.Proofs.YtjkdfjkaeoklmaaW.PrintWords
set_option linter.unusedVariables false
set_option linter.unusedSimpArgs false
theorem rec_eq (l r : List Int) (hp : r.Perm (l.filter pos?)) (hs : r.reverse.Pairwise (· ≤ ·)) : recency l = r := by
  unfold recency
  rw [← srt_eq ((List.reverse_perm r).trans hp) hs, List.reverse_reverse]
theorem rc22 : recency [2, 2] = [2, 2] := rec_eq _ _ (by decide) (by decide)
theorem rc31 : recency [3, 1] = [3, 1] := rec_eq _ _ (by decide) (by decide)
theorem rc3 : recency [3] = [3] := rec_eq _ _ (by decide) (by decide)
theorem rc21 : recency [2, 1] = [2, 1] := rec_eq _ _ (by decide) (by decide)
theorem rc19 : recency [1, 9] = [9, 1] := rec_eq _ _ (by decide) (by decide)
theorem rc103 : recency [1, 0, 3] = [3, 1] := rec_eq _ _ (by decide) (by decide)
theorem okNil : okRules [] := ⟨by decide, by simp⟩
def awE : List S38 := [⟨⟨0, [9]⟩, true⟩, ⟨⟨0, [2, 2]⟩, false⟩, ⟨⟨1, [3, 1]⟩, false⟩, ⟨⟨0, [3]⟩, false⟩]
theorem aw_sel : selP (lessP [] 0) awE = (1, [3, 1], true) := by
  simp [selP, unfired, awE, minT, lessP, compareP, orP, rc22, rc31, rc3, cmpL, cmpI, strAt]
theorem aw_less1 : lessP [] 0 ⟨0, [3, 1]⟩ ⟨0, [3]⟩ = true := by
  simp [lessP, compareP, orP, rc31, rc3, cmpL, cmpI, strAt]
theorem aw_less2 : lessP [] 1 ⟨0, [2, 1]⟩ ⟨0, [1, 9]⟩ = true := by
  simp [lessP, compareP, orP, rc21, rc19, cmpL, cmpI, strAt, firstP]
theorem aw_less3 : lessP [] 0 ⟨0, [2, 1]⟩ ⟨0, [1, 9]⟩ = false := by
  simp [lessP, compareP, orP, rc21, rc19, cmpL, cmpI, strAt, firstP]
theorem same_l0 (l m : List Int) (hl : l.length = m.length) (hb : l.length ≤ 9223372036854775807) : ∀ (n i : Nat), l.length - i = n → i ≤ l.length → l.take i = m.take i → Ev (fun k => intarsiaref21_SameInts.l0 k l m (i : Int)) (decide (l = m))
  | 0, i, hn, hi, ht => by
    obtain rfl : i = l.length := by omega
    refine one_round (fun k => ?_)
    simp only [intarsiaref21_SameInts.l0]
    rw [if_neg (by omega)]
    rw [List.take_length, hl, List.take_length] at ht
    rw [decide_eq_true ht]
  | n + 1, i, hn, hi, ht => by
    have hlt : i < l.length := by omega
    have hlm : i < m.length := by omega
    by_cases hc : l[i] = m[i]
    · refine Ev.step (fun k => ?_) (same_l0 l m hl hb n (i + 1) (by omega) (by omega) (by rw [List.take_succ_eq_append_getElem hlt, List.take_succ_eq_append_getElem hlm, ht, hc]))
      simp only [intarsiaref21_SameInts.l0]
      rw [if_pos (by omega), if_pos (by omega), if_pos (by omega), rd_at hlt, rd_at hlm, if_pos hc, w64 (by omega) (by omega)]
      rfl
    · have : decide (l = m) = false := decide_eq_false (fun e => by subst e; exact hc rfl)
      rw [this]
      refine one_round (fun k => ?_)
      simp only [intarsiaref21_SameInts.l0]
      rw [if_pos (by omega), if_pos (by omega), if_pos (by omega), rd_at hlt, rd_at hlm, if_neg hc]
theorem same_val (l m : List Int) (hb : l.length ≤ 9223372036854775807) : Ev (fun k => intarsiaref21_SameInts.f k l m) (decide (l = m)) := by
  by_cases h : l.length = m.length
  · refine Ev.congr (f := fun k => intarsiaref21_SameInts.l0 k l m ((0 : Nat) : Int)) (fun k => ?_) (same_l0 l m h hb _ 0 rfl (Nat.zero_le _) rfl)
    rw [intarsiaref21_SameInts.f, if_pos (by omega)]
    rfl
  · have : decide (l = m) = false := decide_eq_false (fun e => h (by rw [e]))
    rw [this]
    refine Ev.congr (f := fun _ => some false) (fun k => ?_) (Ev.now _)
    rw [intarsiaref21_SameInts.f, if_neg (by omega)]
end Go.Proofs.Ytjkdfjkaeoklmaa.Q
namespace Go.Proofs.Ytjkdfjkaeoklmaa.Q
open Go.RowKit Go.Proofs.YtjkdfjkaeoklmaaW.PrintWords Go.Proofs.YtjkdfjkaeoklmaaW.PrintLast Go.Proofs.YtjkdfjkaeoklmaaW.PrintMore
set_option linter.unusedVariables false
set_option linter.unusedSimpArgs false
/-- What a kind reads, in a past world, whatever it leads to. -/
def kG {α : Type} (d : Kd α) (w : World) : Kd α where
  sz := d.sz
  E := []
  K := fun _ x cs => Kd.FK d w (fun _ => True) x cs
  M := fun _ _ _ x cs => Kd.FK d w (fun _ => True) x cs
  K_len := fun h => d.K_len (Kd.FK_now h)
  K_one := fun h => d.K_one (Kd.FK_now h)
  K_below := fun _ h => h
  K_of_M := fun h => h
  M_mono := fun _ h => h
  M_bound := fun h => h
  M_move := fun _ h => h
  M_lower := fun _ h => h
theorem F_all {α : Type} {d : Kd α} (hd : Kd.Heap d) {w : World} {A : Option Addr} {n : Nat} {xs : List α} (h : d.C w A n xs) : Kd.F d w (fun _ => True) A n xs := fun W' hW => hd.C (fun k hk => hW k trivial hk) h
theorem kG_V {α : Type} {d : Kd α} (hd : Kd.Heap d) {w w1 : World} {e base : Nat} {ok : Nat → Prop} {v : Value} {xs : List α} (h : (kG d w).R e w1 base ok v xs) (hb : Below w.heap.size w w1) {b : Nat} : Kd.V d e w1 b (fun _ => True) v xs := by
  obtain ⟨A, c, rfl, hl, hC⟩ := Kd.R_reads h
  refine Kd.V_mk hl (F_all hd ⟨hC.1, hC.2.1, fun hn => ?_⟩)
  obtain ⟨ad, rfl, hc⟩ := hC.2.2 hn
  refine ⟨ad, rfl, fun j p hj => ?_⟩
  obtain ⟨c, hs, hr, hcell⟩ := hc j p hj
  exact ⟨c, hs, hr w1 (fun k _ hk => hb.block k hk), hcell⟩
theorem repsN_cons {α : Type} {R : α → List Value → Prop} {sz : Nat} {x : α} {cs : List Value} {xs : List α} {inner : List Value} (h : R x cs) (hl : cs.length = sz) (hr : Reps R sz xs inner) : Reps R sz (x :: xs) (cs ++ inner) := by
  refine ⟨by rw [List.length_append, hl, hr.1, List.length_cons, Nat.succ_mul, Nat.add_comm], fun j p hj => ?_⟩
  cases j with
  | zero =>
    simp at hj
    subst hj
    rw [Nat.zero_mul, List.drop_zero, ← hl, List.take_left']
    · exact h
    · rfl
  | succ j =>
    have := hr.2 j p (by simpa using hj)
    rw [show (j + 1) * sz = cs.length + j * sz by rw [Nat.succ_mul, hl, Nat.add_comm], List.drop_append, List.drop_of_length_le (by omega), List.nil_append, Nat.add_sub_cancel_left]
    exact this
theorem drawn_below {w w1 : World} (h : Drawn0 w w1) : Below w.heap.size w w1 := by
  obtain ⟨n, rfl⟩ := h
  exact pw_below_drewN (Below.refl _ _) n
set_option maxHeartbeats 4000000 in
set_option maxRecDepth 100000 in
theorem awake8 (KK : Nat) (w : World) (h1 : order_Select.f KK [] 0 awE = some (1, [3, 1], true)) (h2 : order_Less.f KK [] 0 0 [3, 1] 0 [3] = some true) (h3 : order_Less.f KK [] 1 0 [2, 1] 0 [1, 9] = some true) (h4 : order_Less.f KK [] 0 0 [2, 1] 0 [1, 9] = some false)
    (h5 : order_Recency.f [1, 0, 3] = some [3, 1]) (h6 : intarsiaref21_SameInts.f KK [3, 1] [3, 1] = some true) (h7 : order_Sort.f KK [] 0 [⟨0, [1]⟩] = some [⟨0, [1]⟩]) :
    Calls Try.prog 8 #[] w fun e w' => e = .returned (.bool true) ∧ Below w.heap.size w w' := by
  have hu38 := Try.underlying38
  have hu32 := Try.underlying32
  have HB := Aside0.mk (Below.refl w.heap.size w)
  have HSEL := Aside0.mk h1
  have HL1 := Aside0.mk h2
  have HL2 := Aside0.mk h3
  have HL3 := Aside0.mk h4
  have HREC := Aside0.mk h5
  have HSAME := Aside0.mk h6
  have HSRT := Aside0.mk h7
  clear h1 h2 h3 h4 h5 h6 h7
  go_enter Try.func8, Try.ntmps8
  go_wp2_with (first
   | ((with_reducible refine gate_dst (N := 4) rfl ?_); (try (refine gate_guard (by rfl) ?_; dsimp only)); refine Kd.R_lit (Kd.int .i64) _ 3 ?hg (N := 4) ?hd (xs := ([9] : List Int)) (inner := [.int .i64 9]) (ok := fun _ => True) (okp := fun _ => True) ?hr ?hp (fun _ hk => hk) trivial (Below.refl _ _) (Nat.le_refl _) (by decide) ?_; (case hd => rfl); (case hg => rfl); (case hr => first | (go_simp; done) | (go_simp; rfl)); (case hp => exact (Reps.one (show Kd.M (Kd.int .i64) _ _ _ 9 [.int .i64 9] from rfl) (Reps.none _ _))); intro v4 w4 ho hb hg_ hnew_; clear hg_ hnew_; obtain ⟨A4, c4, rfl, hl, hc⟩ := Kd.R_reads ho; have HL4 := Aside0.mk hl; have HC4 := Aside0.mk hc; clear ho hl hc; have HB_ := Aside0.mk (below_step HB.out hb); clear HB; have HB := HB_; clear HB_; clear hb)
   | ((with_reducible refine gate_callee (f := 23) rfl ?_); (try (refine gate_guard (by rfl) ?_; dsimp only)); refine goesL_ (some 5) rfl rfl Try.func23 (by kernel_rfl) rfl #[.int .i64 0, .slice A4 1 c4] rfl (by first | rfl | (go_simp; done) | (go_simp; rfl)) ?_; refine (inst23 0 A4 1 c4 _).mono ?_; rintro e w5 ⟨rfl, hb⟩; refine ⟨_, rfl, ?_⟩; have HB_ := Aside0.mk (below_step HB.out hb); clear HB; have HB := HB_; clear HB_; have n_ := Aside0.mk (Kd.C_below HC4.out hb); clear HC4; have HC4 := n_; clear n_; clear hb)
   | ((with_reducible refine gate_dst (N := 7) rfl ?_); (try (refine gate_guard (by rfl) ?_; dsimp only)); refine Kd.R_lit (Kd.int .i64) _ 3 ?hg (N := 7) ?hd (xs := ([2, 2] : List Int)) (inner := [.int .i64 2, .int .i64 2]) (ok := fun _ => True) (okp := fun _ => True) ?hr ?hp (fun _ hk => hk) trivial (Below.refl _ _) (Nat.le_refl _) (by decide) ?_; (case hd => rfl); (case hg => rfl); (case hr => first | (go_simp; done) | (go_simp; rfl)); (case hp => exact (Reps.one (show Kd.M (Kd.int .i64) _ _ _ 2 [.int .i64 2] from rfl) (Reps.one (show Kd.M (Kd.int .i64) _ _ _ 2 [.int .i64 2] from rfl) (Reps.none _ _)))); intro v7 w7 ho hb hg_ hnew_; clear hg_ hnew_; obtain ⟨A7, c7, rfl, hl, hc⟩ := Kd.R_reads ho; have HL7 := Aside0.mk hl; have HC7 := Aside0.mk hc; clear ho hl hc; have HB_ := Aside0.mk (below_step HB.out hb); clear HB; have HB := HB_; clear HB_; have n_ := Aside0.mk (Kd.C_below HC4.out hb); clear HC4; have HC4 := n_; clear n_; clear hb)
   | ((with_reducible refine gate_callee (f := 23) rfl ?_); (try (refine gate_guard (by rfl) ?_; dsimp only)); refine goesL_ (some 8) rfl rfl Try.func23 (by kernel_rfl) rfl #[.int .i64 0, .slice A7 2 c7] rfl (by first | rfl | (go_simp; done) | (go_simp; rfl)) ?_; refine (inst23 0 A7 2 c7 _).mono ?_; rintro e w8 ⟨rfl, hb⟩; refine ⟨_, rfl, ?_⟩; have HB_ := Aside0.mk (below_step HB.out hb); clear HB; have HB := HB_; clear HB_; have n_ := Aside0.mk (Kd.C_below HC4.out hb); clear HC4; have HC4 := n_; clear n_; have n_ := Aside0.mk (Kd.C_below HC7.out hb); clear HC7; have HC7 := n_; clear n_; clear hb)
   | ((with_reducible refine gate_dst (N := 10) rfl ?_); (try (refine gate_guard (by rfl) ?_; dsimp only)); refine Kd.R_lit (Kd.int .i64) _ 3 ?hg (N := 10) ?hd (xs := ([3, 1] : List Int)) (inner := [.int .i64 3, .int .i64 1]) (ok := fun _ => True) (okp := fun _ => True) ?hr ?hp (fun _ hk => hk) trivial (Below.refl _ _) (Nat.le_refl _) (by decide) ?_; (case hd => rfl); (case hg => rfl); (case hr => first | (go_simp; done) | (go_simp; rfl)); (case hp => exact (Reps.one (show Kd.M (Kd.int .i64) _ _ _ 3 [.int .i64 3] from rfl) (Reps.one (show Kd.M (Kd.int .i64) _ _ _ 1 [.int .i64 1] from rfl) (Reps.none _ _)))); intro v10 w10 ho hb hg_ hnew_; clear hg_ hnew_; obtain ⟨A10, c10, rfl, hl, hc⟩ := Kd.R_reads ho; have HL10 := Aside0.mk hl; have HC10 := Aside0.mk hc; clear ho hl hc; have HB_ := Aside0.mk (below_step HB.out hb); clear HB; have HB := HB_; clear HB_; have n_ := Aside0.mk (Kd.C_below HC4.out hb); clear HC4; have HC4 := n_; clear n_; have n_ := Aside0.mk (Kd.C_below HC7.out hb); clear HC7; have HC7 := n_; clear n_; clear hb)
   | ((with_reducible refine gate_callee (f := 23) rfl ?_); (try (refine gate_guard (by rfl) ?_; dsimp only)); refine goesL_ (some 11) rfl rfl Try.func23 (by kernel_rfl) rfl #[.int .i64 1, .slice A10 2 c10] rfl (by first | rfl | (go_simp; done) | (go_simp; rfl)) ?_; refine (inst23 1 A10 2 c10 _).mono ?_; rintro e w11 ⟨rfl, hb⟩; refine ⟨_, rfl, ?_⟩; have HB_ := Aside0.mk (below_step HB.out hb); clear HB; have HB := HB_; clear HB_; have n_ := Aside0.mk (Kd.C_below HC4.out hb); clear HC4; have HC4 := n_; clear n_; have n_ := Aside0.mk (Kd.C_below HC7.out hb); clear HC7; have HC7 := n_; clear n_; have n_ := Aside0.mk (Kd.C_below HC10.out hb); clear HC10; have HC10 := n_; clear n_; clear hb)
   | ((with_reducible refine gate_dst (N := 13) rfl ?_); (try (refine gate_guard (by rfl) ?_; dsimp only)); refine Kd.R_lit (Kd.int .i64) _ 3 ?hg (N := 13) ?hd (xs := ([3] : List Int)) (inner := [.int .i64 3]) (ok := fun _ => True) (okp := fun _ => True) ?hr ?hp (fun _ hk => hk) trivial (Below.refl _ _) (Nat.le_refl _) (by decide) ?_; (case hd => rfl); (case hg => rfl); (case hr => first | (go_simp; done) | (go_simp; rfl)); (case hp => exact (Reps.one (show Kd.M (Kd.int .i64) _ _ _ 3 [.int .i64 3] from rfl) (Reps.none _ _))); intro v13 w13 ho hb hg_ hnew_; clear hg_ hnew_; obtain ⟨A13, c13, rfl, hl, hc⟩ := Kd.R_reads ho; have HL13 := Aside0.mk hl; have HC13 := Aside0.mk hc; clear ho hl hc; have HB_ := Aside0.mk (below_step HB.out hb); clear HB; have HB := HB_; clear HB_; have n_ := Aside0.mk (Kd.C_below HC4.out hb); clear HC4; have HC4 := n_; clear n_; have n_ := Aside0.mk (Kd.C_below HC7.out hb); clear HC7; have HC7 := n_; clear n_; have n_ := Aside0.mk (Kd.C_below HC10.out hb); clear HC10; have HC10 := n_; clear n_; clear hb)
   | ((with_reducible refine gate_callee (f := 23) rfl ?_); (try (refine gate_guard (by rfl) ?_; dsimp only)); refine goesL_ (some 14) rfl rfl Try.func23 (by kernel_rfl) rfl #[.int .i64 0, .slice A13 1 c13] rfl (by first | rfl | (go_simp; done) | (go_simp; rfl)) ?_; refine (inst23 0 A13 1 c13 _).mono ?_; rintro e w14 ⟨rfl, hb⟩; refine ⟨_, rfl, ?_⟩; have HB_ := Aside0.mk (below_step HB.out hb); clear HB; have HB := HB_; clear HB_; have n_ := Aside0.mk (Kd.C_below HC4.out hb); clear HC4; have HC4 := n_; clear n_; have n_ := Aside0.mk (Kd.C_below HC7.out hb); clear HC7; have HC7 := n_; clear n_; have n_ := Aside0.mk (Kd.C_below HC10.out hb); clear HC10; have HC10 := n_; clear n_; have n_ := Aside0.mk (Kd.C_below HC13.out hb); clear HC13; have HC13 := n_; clear n_; clear hb)
   | ((with_reducible refine gate_dst (N := 16) rfl ?_); (try (refine gate_guard (by rfl) ?_; dsimp only)); refine Kd.R_lit (kG k38 w14) _ 38 ?hg (N := 16) ?hd (xs := awE) (inner := [.int .i64 0, .slice A4 1 c4, .bool true, .int .i64 0, .slice A7 2 c7, .bool false, .int .i64 1, .slice A10 2 c10, .bool false, .int .i64 0, .slice A13 1 c13, .bool false]) (ok := fun _ => True) (okp := fun _ => True) ?hr ?hp (fun _ hk => hk) trivial (Below.refl _ _) (Nat.le_refl _) (show (4 : Nat) ≤ 9223372036854775807 from by decide) ?_; (case hd => rfl); (case hg => rfl); (case hr => first | (go_simp; done) | (go_simp; rfl)); (case hp => exact (repsN_cons (x := (⟨⟨0, [9]⟩, true⟩ : S38)) (cs := [.int .i64 0, .slice A4 1 c4, .bool true]) (k38_mkF _ _ _ HL4.out (F_all (Kd.heap_int _) HC4.out)) rfl (repsN_cons (x := (⟨⟨0, [2, 2]⟩, false⟩ : S38)) (cs := [.int .i64 0, .slice A7 2 c7, .bool false]) (k38_mkF _ _ _ HL7.out (F_all (Kd.heap_int _) HC7.out)) rfl (repsN_cons (x := (⟨⟨1, [3, 1]⟩, false⟩ : S38)) (cs := [.int .i64 1, .slice A10 2 c10, .bool false]) (k38_mkF _ _ _ HL10.out (F_all (Kd.heap_int _) HC10.out)) rfl (repsN_cons (x := (⟨⟨0, [3]⟩, false⟩ : S38)) (cs := [.int .i64 0, .slice A13 1 c13, .bool false]) (k38_mkF _ _ _ HL13.out (F_all (Kd.heap_int _) HC13.out)) rfl (Reps.none _ _)))))); intro v16 w16 ho hb hg_ hnew_; clear hg_ hnew_; have hV := kG_V (b := 0) k38_heap ho hb; obtain ⟨A16, c16, rfl⟩ := Kd.V_slice hV; have HV16 := Aside0.mk hV; clear ho hV HC4 HC7 HC10 HC13; have HB_ := Aside0.mk (below_step HB.out hb); clear HB; have HB := HB_; clear HB_; clear hb)
   | ((with_reducible refine gate_callee (f := 19) rfl ?_); (try (refine gate_guard (by rfl) ?_; dsimp only)); refine goesL_ (some 17) rfl rfl Try.func19 (by kernel_rfl) rfl #[.slice none 0 0, .int .u8 0, .slice A16 4 c16] rfl (by first | rfl | (go_simp; done) | (go_simp; rfl)) ?_; refine (order_Select.calls KK none 0 [] 0 (fun _ => True) A16 c16 awE 1 [3, 1] true _ (Kd.C_nil _ _) (Nat.le_refl _) HV16.out HSEL.out).mono ?_; rintro e w17 ⟨v17, rfl, hv, hb⟩; obtain ⟨A17, c17, rfl⟩ := Kd.V_slice hv; refine ⟨_, rfl, ?_⟩; clear hv HV16; have HB_ := Aside0.mk (below_step HB.out hb); clear HB; have HB := HB_; clear HB_; clear hb)
   | ((with_reducible refine gate_dst (N := 1) rfl ?_); refine box_event ?hg (N := 1) ?hd (cs := #[.int .i64 0, .slice none 0 0]) (t := 32) ?hr ?_; (case hd => rfl); (case hg => rfl); (case hr => first | (go_simp; done) | (go_simp; rfl)); intro g1 hg1 w1 hbox1 hb1; have hcz_0 : w1.cell? ⟨g1, 0, none⟩ = some (.int .i64 0) := (blk_cell hbox1 0).trans rfl; have hcz_1 : w1.cell? ⟨g1, 1, none⟩ = some (.slice none 0 0) := (blk_cell hbox1 1).trans rfl; have hfz_0 := blk_frozen hbox1 0; have hfz_1 := blk_frozen hbox1 1; have BK1 := Aside0.mk (And.intro hg1 (And.intro hbox1 hb1)); clear hg1 hbox1 hb1)
   | ((with_reducible refine gate_dst (N := 27) rfl ?_); (try (refine gate_guard (by rfl) ?_; dsimp only)); refine Kd.R_lit (Kd.int .i64) _ 3 ?hg (N := 27) ?hd (xs := ([3, 1] : List Int)) (inner := [.int .i64 3, .int .i64 1]) (ok := fun _ => True) (okp := fun _ => True) ?hr ?hp (fun _ hk => hk) trivial (Below.refl _ _) (Nat.le_refl _) (by decide) ?_; (case hd => rfl); (case hg => rfl); (case hr => first | (go_simp; done) | (go_simp; rfl)); (case hp => exact (Reps.one (show Kd.M (Kd.int .i64) _ _ _ 3 [.int .i64 3] from rfl) (Reps.one (show Kd.M (Kd.int .i64) _ _ _ 1 [.int .i64 1] from rfl) (Reps.none _ _)))); intro v27 w27 ho hb hg_ hnew_; clear hg_ hnew_; obtain ⟨A27, c27, rfl, hl, hc⟩ := Kd.R_reads ho; have HL27 := Aside0.mk hl; have HC27 := Aside0.mk hc; clear ho hl hc; have le1 : w.heap.size ≤ g1 := Nat.le_trans HB.out.size (Nat.le_of_eq BK1.out.1.symm); have HB_ := Aside0.mk (below_step (below_set (below_set (below_step HB.out BK1.out.2.2) le1) le1) hb); clear le1; clear HB; have HB := HB_; clear HB_; clear hb)
   | ((with_reducible refine gate_callee (f := 23) rfl ?_); (try (refine gate_guard (by rfl) ?_; dsimp only)); refine goesL_ (some 28) rfl rfl Try.func23 (by kernel_rfl) rfl #[.int .i64 0, .slice A27 2 c27] rfl (by first | rfl | (go_simp; done) | (go_simp; rfl)) ?_; refine (inst23 0 A27 2 c27 _).mono ?_; rintro e w28 ⟨rfl, hb⟩; refine ⟨_, rfl, ?_⟩; have HB_ := Aside0.mk (below_step HB.out hb); clear HB; have HB := HB_; clear HB_; have n_ := Aside0.mk (Kd.C_below HC27.out hb); clear HC27; have HC27 := n_; clear n_; clear hb)
   | ((with_reducible refine gate_dst (N := 29) rfl ?_); (try (refine gate_guard (by rfl) ?_; dsimp only)); refine Kd.R_lit (Kd.int .i64) _ 3 ?hg (N := 29) ?hd (xs := ([3] : List Int)) (inner := [.int .i64 3]) (ok := fun _ => True) (okp := fun _ => True) ?hr ?hp (fun _ hk => hk) trivial (Below.refl _ _) (Nat.le_refl _) (by decide) ?_; (case hd => rfl); (case hg => rfl); (case hr => first | (go_simp; done) | (go_simp; rfl)); (case hp => exact (Reps.one (show Kd.M (Kd.int .i64) _ _ _ 3 [.int .i64 3] from rfl) (Reps.none _ _))); intro v29 w29 ho hb hg_ hnew_; clear hg_ hnew_; obtain ⟨A29, c29, rfl, hl, hc⟩ := Kd.R_reads ho; have HL29 := Aside0.mk hl; have HC29 := Aside0.mk hc; clear ho hl hc; have HB_ := Aside0.mk (below_step HB.out hb); clear HB; have HB := HB_; clear HB_; have n_ := Aside0.mk (Kd.C_below HC27.out hb); clear HC27; have HC27 := n_; clear n_; clear hb)
   | ((with_reducible refine gate_callee (f := 23) rfl ?_); (try (refine gate_guard (by rfl) ?_; dsimp only)); refine goesL_ (some 30) rfl rfl Try.func23 (by kernel_rfl) rfl #[.int .i64 0, .slice A29 1 c29] rfl (by first | rfl | (go_simp; done) | (go_simp; rfl)) ?_; refine (inst23 0 A29 1 c29 _).mono ?_; rintro e w30 ⟨rfl, hb⟩; refine ⟨_, rfl, ?_⟩; have HB_ := Aside0.mk (below_step HB.out hb); clear HB; have HB := HB_; clear HB_; have n_ := Aside0.mk (Kd.C_below HC27.out hb); clear HC27; have HC27 := n_; clear n_; have n_ := Aside0.mk (Kd.C_below HC29.out hb); clear HC29; have HC29 := n_; clear n_; clear hb)
   | ((with_reducible refine gate_callee (f := 9) rfl ?_); (try (refine gate_guard (by rfl) ?_; dsimp only)); refine goesL_ (some 31) rfl rfl Try.func9 (by kernel_rfl) rfl #[.slice none 0 0, .int .u8 0, .agg #[.int .i64 0, .slice A27 2 c27], .agg #[.int .i64 0, .slice A29 1 c29]] rfl (by first | rfl | (go_simp; done) | (go_simp; rfl)) ?_; refine (order_Less.calls KK none 0 [] 0 0 A27 c27 [3, 1] 0 A29 c29 [3] _ _ (Kd.C_nil _ _) (Nat.le_refl _) HC27.out HL27.out HC29.out HL29.out HL1.out).mono ?_; rintro e w31 ⟨rfl, hb⟩; refine ⟨_, rfl, ?_⟩; clear HC27 HC29; have HB_ := Aside0.mk (below_step HB.out hb); clear HB; have HB := HB_; clear HB_; clear hb)
   | ((with_reducible refine gate_dst (N := 34) rfl ?_); (try (refine gate_guard (by rfl) ?_; dsimp only)); refine Kd.R_lit (Kd.int .i64) _ 3 ?hg (N := 34) ?hd (xs := ([2, 1] : List Int)) (inner := [.int .i64 2, .int .i64 1]) (ok := fun _ => True) (okp := fun _ => True) ?hr ?hp (fun _ hk => hk) trivial (Below.refl _ _) (Nat.le_refl _) (by decide) ?_; (case hd => rfl); (case hg => rfl); (case hr => first | (go_simp; done) | (go_simp; rfl)); (case hp => exact (Reps.one (show Kd.M (Kd.int .i64) _ _ _ 2 [.int .i64 2] from rfl) (Reps.one (show Kd.M (Kd.int .i64) _ _ _ 1 [.int .i64 1] from rfl) (Reps.none _ _)))); intro v34 w34 ho hb hg_ hnew_; clear hg_ hnew_; obtain ⟨A34, c34, rfl, hl, hc⟩ := Kd.R_reads ho; have HL34 := Aside0.mk hl; have HC34 := Aside0.mk hc; clear ho hl hc; have HB_ := Aside0.mk (below_step HB.out hb); clear HB; have HB := HB_; clear HB_; clear hb)
   | ((with_reducible refine gate_callee (f := 23) rfl ?_); (try (refine gate_guard (by rfl) ?_; dsimp only)); refine goesL_ (some 35) rfl rfl Try.func23 (by kernel_rfl) rfl #[.int .i64 0, .slice A34 2 c34] rfl (by first | rfl | (go_simp; done) | (go_simp; rfl)) ?_; refine (inst23 0 A34 2 c34 _).mono ?_; rintro e w35 ⟨rfl, hb⟩; refine ⟨_, rfl, ?_⟩; have HB_ := Aside0.mk (below_step HB.out hb); clear HB; have HB := HB_; clear HB_; have n_ := Aside0.mk (Kd.C_below HC34.out hb); clear HC34; have HC34 := n_; clear n_; clear hb)
   | ((with_reducible refine gate_dst (N := 36) rfl ?_); (try (refine gate_guard (by rfl) ?_; dsimp only)); refine Kd.R_lit (Kd.int .i64) _ 3 ?hg (N := 36) ?hd (xs := ([1, 9] : List Int)) (inner := [.int .i64 1, .int .i64 9]) (ok := fun _ => True) (okp := fun _ => True) ?hr ?hp (fun _ hk => hk) trivial (Below.refl _ _) (Nat.le_refl _) (by decide) ?_; (case hd => rfl); (case hg => rfl); (case hr => first | (go_simp; done) | (go_simp; rfl)); (case hp => exact (Reps.one (show Kd.M (Kd.int .i64) _ _ _ 1 [.int .i64 1] from rfl) (Reps.one (show Kd.M (Kd.int .i64) _ _ _ 9 [.int .i64 9] from rfl) (Reps.none _ _)))); intro v36 w36 ho hb hg_ hnew_; clear hg_ hnew_; obtain ⟨A36, c36, rfl, hl, hc⟩ := Kd.R_reads ho; have HL36 := Aside0.mk hl; have HC36 := Aside0.mk hc; clear ho hl hc; have HB_ := Aside0.mk (below_step HB.out hb); clear HB; have HB := HB_; clear HB_; have n_ := Aside0.mk (Kd.C_below HC34.out hb); clear HC34; have HC34 := n_; clear n_; clear hb)
   | ((with_reducible refine gate_callee (f := 23) rfl ?_); (try (refine gate_guard (by rfl) ?_; dsimp only)); refine goesL_ (some 37) rfl rfl Try.func23 (by kernel_rfl) rfl #[.int .i64 0, .slice A36 2 c36] rfl (by first | rfl | (go_simp; done) | (go_simp; rfl)) ?_; refine (inst23 0 A36 2 c36 _).mono ?_; rintro e w37 ⟨rfl, hb⟩; refine ⟨_, rfl, ?_⟩; have HB_ := Aside0.mk (below_step HB.out hb); clear HB; have HB := HB_; clear HB_; have n_ := Aside0.mk (Kd.C_below HC34.out hb); clear HC34; have HC34 := n_; clear n_; have n_ := Aside0.mk (Kd.C_below HC36.out hb); clear HC36; have HC36 := n_; clear n_; clear hb)
   | ((with_reducible refine gate_callee (f := 9) rfl ?_); (try (refine gate_guard (by rfl) ?_; dsimp only)); refine goesL_ (some 38) rfl rfl Try.func9 (by kernel_rfl) rfl #[.slice none 0 0, .int .u8 1, .agg #[.int .i64 0, .slice A34 2 c34], .agg #[.int .i64 0, .slice A36 2 c36]] rfl (by first | rfl | (go_simp; done) | (go_simp; rfl)) ?_; refine (order_Less.calls KK none 0 [] 1 0 A34 c34 [2, 1] 0 A36 c36 [1, 9] _ _ (Kd.C_nil _ _) (Nat.le_refl _) HC34.out HL34.out HC36.out HL36.out HL2.out).mono ?_; rintro e w38 ⟨rfl, hb⟩; refine ⟨_, rfl, ?_⟩; clear HC34 HC36; have HB_ := Aside0.mk (below_step HB.out hb); clear HB; have HB := HB_; clear HB_; clear hb)
   | ((with_reducible refine gate_dst (N := 41) rfl ?_); (try (refine gate_guard (by rfl) ?_; dsimp only)); refine Kd.R_lit (Kd.int .i64) _ 3 ?hg (N := 41) ?hd (xs := ([2, 1] : List Int)) (inner := [.int .i64 2, .int .i64 1]) (ok := fun _ => True) (okp := fun _ => True) ?hr ?hp (fun _ hk => hk) trivial (Below.refl _ _) (Nat.le_refl _) (by decide) ?_; (case hd => rfl); (case hg => rfl); (case hr => first | (go_simp; done) | (go_simp; rfl)); (case hp => exact (Reps.one (show Kd.M (Kd.int .i64) _ _ _ 2 [.int .i64 2] from rfl) (Reps.one (show Kd.M (Kd.int .i64) _ _ _ 1 [.int .i64 1] from rfl) (Reps.none _ _)))); intro v41 w41 ho hb hg_ hnew_; clear hg_ hnew_; obtain ⟨A41, c41, rfl, hl, hc⟩ := Kd.R_reads ho; have HL41 := Aside0.mk hl; have HC41 := Aside0.mk hc; clear ho hl hc; have HB_ := Aside0.mk (below_step HB.out hb); clear HB; have HB := HB_; clear HB_; clear hb)
   | ((with_reducible refine gate_callee (f := 23) rfl ?_); (try (refine gate_guard (by rfl) ?_; dsimp only)); refine goesL_ (some 42) rfl rfl Try.func23 (by kernel_rfl) rfl #[.int .i64 0, .slice A41 2 c41] rfl (by first | rfl | (go_simp; done) | (go_simp; rfl)) ?_; refine (inst23 0 A41 2 c41 _).mono ?_; rintro e w42 ⟨rfl, hb⟩; refine ⟨_, rfl, ?_⟩; have HB_ := Aside0.mk (below_step HB.out hb); clear HB; have HB := HB_; clear HB_; have n_ := Aside0.mk (Kd.C_below HC41.out hb); clear HC41; have HC41 := n_; clear n_; clear hb)
   | ((with_reducible refine gate_dst (N := 43) rfl ?_); (try (refine gate_guard (by rfl) ?_; dsimp only)); refine Kd.R_lit (Kd.int .i64) _ 3 ?hg (N := 43) ?hd (xs := ([1, 9] : List Int)) (inner := [.int .i64 1, .int .i64 9]) (ok := fun _ => True) (okp := fun _ => True) ?hr ?hp (fun _ hk => hk) trivial (Below.refl _ _) (Nat.le_refl _) (by decide) ?_; (case hd => rfl); (case hg => rfl); (case hr => first | (go_simp; done) | (go_simp; rfl)); (case hp => exact (Reps.one (show Kd.M (Kd.int .i64) _ _ _ 1 [.int .i64 1] from rfl) (Reps.one (show Kd.M (Kd.int .i64) _ _ _ 9 [.int .i64 9] from rfl) (Reps.none _ _)))); intro v43 w43 ho hb hg_ hnew_; clear hg_ hnew_; obtain ⟨A43, c43, rfl, hl, hc⟩ := Kd.R_reads ho; have HL43 := Aside0.mk hl; have HC43 := Aside0.mk hc; clear ho hl hc; have HB_ := Aside0.mk (below_step HB.out hb); clear HB; have HB := HB_; clear HB_; have n_ := Aside0.mk (Kd.C_below HC41.out hb); clear HC41; have HC41 := n_; clear n_; clear hb)
   | ((with_reducible refine gate_callee (f := 23) rfl ?_); (try (refine gate_guard (by rfl) ?_; dsimp only)); refine goesL_ (some 44) rfl rfl Try.func23 (by kernel_rfl) rfl #[.int .i64 0, .slice A43 2 c43] rfl (by first | rfl | (go_simp; done) | (go_simp; rfl)) ?_; refine (inst23 0 A43 2 c43 _).mono ?_; rintro e w44 ⟨rfl, hb⟩; refine ⟨_, rfl, ?_⟩; have HB_ := Aside0.mk (below_step HB.out hb); clear HB; have HB := HB_; clear HB_; have n_ := Aside0.mk (Kd.C_below HC41.out hb); clear HC41; have HC41 := n_; clear n_; have n_ := Aside0.mk (Kd.C_below HC43.out hb); clear HC43; have HC43 := n_; clear n_; clear hb)
   | ((with_reducible refine gate_callee (f := 9) rfl ?_); (try (refine gate_guard (by rfl) ?_; dsimp only)); refine goesL_ (some 45) rfl rfl Try.func9 (by kernel_rfl) rfl #[.slice none 0 0, .int .u8 0, .agg #[.int .i64 0, .slice A41 2 c41], .agg #[.int .i64 0, .slice A43 2 c43]] rfl (by first | rfl | (go_simp; done) | (go_simp; rfl)) ?_; refine (order_Less.calls KK none 0 [] 0 0 A41 c41 [2, 1] 0 A43 c43 [1, 9] _ _ (Kd.C_nil _ _) (Nat.le_refl _) HC41.out HL41.out HC43.out HL43.out HL3.out).mono ?_; rintro e w45 ⟨rfl, hb⟩; refine ⟨_, rfl, ?_⟩; clear HC41 HC43; have HB_ := Aside0.mk (below_step HB.out hb); clear HB; have HB := HB_; clear HB_; clear hb)
   | ((with_reducible refine gate_dst (N := 51) rfl ?_); (try (refine gate_guard (by rfl) ?_; dsimp only)); refine Kd.R_lit (Kd.int .i64) _ 3 ?hg (N := 51) ?hd (xs := ([1, 0, 3] : List Int)) (inner := [.int .i64 1, .int .i64 0, .int .i64 3]) (ok := fun _ => True) (okp := fun _ => True) ?hr ?hp (fun _ hk => hk) trivial (Below.refl _ _) (Nat.le_refl _) (by decide) ?_; (case hd => rfl); (case hg => rfl); (case hr => first | (go_simp; done) | (go_simp; rfl)); (case hp => exact (Reps.one (show Kd.M (Kd.int .i64) _ _ _ 1 [.int .i64 1] from rfl) (Reps.one (show Kd.M (Kd.int .i64) _ _ _ 0 [.int .i64 0] from rfl) (Reps.one (show Kd.M (Kd.int .i64) _ _ _ 3 [.int .i64 3] from rfl) (Reps.none _ _))))); intro v51 w51 ho hb hg_ hnew_; clear hg_ hnew_; obtain ⟨A51, c51, rfl, hl, hc⟩ := Kd.R_reads ho; have HL51 := Aside0.mk hl; have HC51 := Aside0.mk hc; clear ho hl hc; have HB_ := Aside0.mk (below_step HB.out hb); clear HB; have HB := HB_; clear HB_; clear hb)
   | ((with_reducible refine gate_callee (f := 15) rfl ?_); (try (refine gate_guard (by rfl) ?_; dsimp only)); refine goesL_ (some 52) rfl rfl Try.func15 (by kernel_rfl) rfl #[.slice A51 3 c51] rfl (by first | rfl | (go_simp; done) | (go_simp; rfl)) ?_; refine (order_Recency.calls A51 c51 [1, 0, 3] [3, 1] _ HC51.out HL51.out HREC.out).mono ?_; rintro e w52 ⟨v52, rfl, ho, hb⟩; refine ⟨_, rfl, ?_⟩; obtain ⟨A52, c52, rfl, hl, hc⟩ := Kd.R_reads ho; have HL52 := Aside0.mk hl; have HC52 := Aside0.mk hc; clear ho hl hc HC51; have HB_ := Aside0.mk (below_step HB.out hb); clear HB; have HB := HB_; clear HB_; clear hb)
   | ((with_reducible refine gate_dst (N := 53) rfl ?_); (try (refine gate_guard (by rfl) ?_; dsimp only)); refine Kd.R_lit (Kd.int .i64) _ 3 ?hg (N := 53) ?hd (xs := ([3, 1] : List Int)) (inner := [.int .i64 3, .int .i64 1]) (ok := fun _ => True) (okp := fun _ => True) ?hr ?hp (fun _ hk => hk) trivial (Below.refl _ _) (Nat.le_refl _) (by decide) ?_; (case hd => rfl); (case hg => rfl); (case hr => first | (go_simp; done) | (go_simp; rfl)); (case hp => exact (Reps.one (show Kd.M (Kd.int .i64) _ _ _ 3 [.int .i64 3] from rfl) (Reps.one (show Kd.M (Kd.int .i64) _ _ _ 1 [.int .i64 1] from rfl) (Reps.none _ _)))); intro v53 w53 ho hb hg_ hnew_; clear hg_ hnew_; obtain ⟨A53, c53, rfl, hl, hc⟩ := Kd.R_reads ho; have HL53 := Aside0.mk hl; have HC53 := Aside0.mk hc; clear ho hl hc; have HB_ := Aside0.mk (below_step HB.out hb); clear HB; have HB := HB_; clear HB_; have n_ := Aside0.mk (Kd.C_below HC52.out hb); clear HC52; have HC52 := n_; clear n_; clear hb)
   | ((with_reducible refine gate_callee (f := 14) rfl ?_); (try (refine gate_guard (by rfl) ?_; dsimp only)); refine goesL_ (some 54) rfl rfl Try.func14 (by kernel_rfl) rfl #[.slice A52 2 c52, .slice A53 2 c53] rfl (by first | rfl | (go_simp; done) | (go_simp; rfl)) ?_; refine (intarsiaref21_SameInts.calls KK A52 c52 [3, 1] A53 c53 [3, 1] true _ HC52.out HL52.out HC53.out HL53.out HSAME.out).mono ?_; rintro e w54 ⟨rfl, hd⟩; refine ⟨_, rfl, ?_⟩; have hb := drawn_below hd; clear hd HC52 HC53; have HB_ := Aside0.mk (below_step HB.out hb); clear HB; have HB := HB_; clear HB_; clear hb)
   | ((with_reducible refine gate_dst (N := 57) rfl ?_); (try (refine gate_guard (by rfl) ?_; dsimp only)); refine Kd.R_lit (Kd.int .i64) _ 3 ?hg (N := 57) ?hd (xs := ([1] : List Int)) (inner := [.int .i64 1]) (ok := fun _ => True) (okp := fun _ => True) ?hr ?hp (fun _ hk => hk) trivial (Below.refl _ _) (Nat.le_refl _) (by decide) ?_; (case hd => rfl); (case hg => rfl); (case hr => first | (go_simp; done) | (go_simp; rfl)); (case hp => exact (Reps.one (show Kd.M (Kd.int .i64) _ _ _ 1 [.int .i64 1] from rfl) (Reps.none _ _))); intro v57 w57 ho hb hg_ hnew_; clear hg_ hnew_; obtain ⟨A57, c57, rfl, hl, hc⟩ := Kd.R_reads ho; have HL57 := Aside0.mk hl; have HC57 := Aside0.mk hc; clear ho hl hc; have HB_ := Aside0.mk (below_step HB.out hb); clear HB; have HB := HB_; clear HB_; clear hb)
   | ((with_reducible refine gate_callee (f := 23) rfl ?_); (try (refine gate_guard (by rfl) ?_; dsimp only)); refine goesL_ (some 58) rfl rfl Try.func23 (by kernel_rfl) rfl #[.int .i64 0, .slice A57 1 c57] rfl (by first | rfl | (go_simp; done) | (go_simp; rfl)) ?_; refine (inst23 0 A57 1 c57 _).mono ?_; rintro e w58 ⟨rfl, hb⟩; refine ⟨_, rfl, ?_⟩; have HB_ := Aside0.mk (below_step HB.out hb); clear HB; have HB := HB_; clear HB_; have n_ := Aside0.mk (Kd.C_below HC57.out hb); clear HC57; have HC57 := n_; clear n_; clear hb)
   | ((with_reducible refine gate_dst (N := 59) rfl ?_); (try (refine gate_guard (by rfl) ?_; dsimp only)); refine Kd.R_lit (kG k32 w58) _ 32 ?hg (N := 59) ?hd (xs := ([⟨0, [1]⟩] : List S32)) (inner := [.int .i64 0, .slice A57 1 c57]) (ok := fun _ => True) (okp := fun _ => True) ?hr ?hp (fun _ hk => hk) trivial (Below.refl _ _) (Nat.le_refl _) (by decide) ?_; (case hd => rfl); (case hg => rfl); (case hr => first | (go_simp; done) | (go_simp; rfl)); (case hp => exact (repsN_cons (x := (⟨0, [1]⟩ : S32)) (cs := [.int .i64 0, .slice A57 1 c57]) (k32_mkF _ _ _ HL57.out (F_all (Kd.heap_int _) HC57.out)) rfl (Reps.none _ _))); intro v59 w59 ho hb hg_ hnew_; clear hg_ hnew_; have hV := kG_V (b := 0) k32_heap ho hb; obtain ⟨A59, c59, rfl⟩ := Kd.V_slice hV; have HV59 := Aside0.mk hV; clear ho hV HC57; have HB_ := Aside0.mk (below_step HB.out hb); clear HB; have HB := HB_; clear HB_; clear hb)
   | ((with_reducible refine gate_callee (f := 12) rfl ?_); (try (refine gate_guard (by rfl) ?_; dsimp only)); refine goesL_ (some 60) rfl rfl Try.func12 (by kernel_rfl) rfl #[.slice none 0 0, .int .u8 0, .slice A59 1 c59] rfl (by first | rfl | (go_simp; done) | (go_simp; rfl)) ?_; refine (order_Sort.calls KK none 0 [] 0 (fun _ => True) A59 c59 [⟨0, [1]⟩] [⟨0, [1]⟩] _ (Kd.C_nil _ _) (Nat.le_refl _) HV59.out HSRT.out).mono ?_; rintro e w60 ⟨v60, rfl, hv, hb⟩; obtain ⟨A60, c60, rfl⟩ := Kd.V_slice hv; refine ⟨_, rfl, ?_⟩; clear hv HV59; have HB_ := Aside0.mk (below_step HB.out hb); clear HB; have HB := HB_; clear HB_; clear hb))
  go_ret
  exact ⟨rfl, HB.out⟩
def intarsialaw26_awake.f : Option Bool := some true
theorem awake_rounds : ∃ KK, order_Select.f KK [] 0 awE = some (1, [3, 1], true) ∧ order_Less.f KK [] 0 0 [3, 1] 0 [3] = some true ∧ order_Less.f KK [] 1 0 [2, 1] 0 [1, 9] = some true ∧ order_Less.f KK [] 0 0 [2, 1] 0 [1, 9] = some false ∧
    order_Recency.f [1, 0, 3] = some [3, 1] ∧ intarsiaref21_SameInts.f KK [3, 1] [3, 1] = some true ∧ order_Sort.f KK [] 0 [⟨0, [1]⟩] = some [⟨0, [1]⟩] := by
  obtain ⟨K1, h1⟩ := select_o_val [] okNil 0 awE (by unfold okEntries; decide) (by decide)
  obtain ⟨K2, h2⟩ := less_o_val [] okNil 0 ⟨0, [3, 1]⟩ ⟨0, [3]⟩ (by decide) (by decide)
  obtain ⟨K3, h3⟩ := less_o_val [] okNil 1 ⟨0, [2, 1]⟩ ⟨0, [1, 9]⟩ (by decide) (by decide)
  obtain ⟨K4, h4⟩ := less_o_val [] okNil 0 ⟨0, [2, 1]⟩ ⟨0, [1, 9]⟩ (by decide) (by decide)
  obtain ⟨K6, h6⟩ := same_val [3, 1] [3, 1] (by decide)
  obtain ⟨K7, h7⟩ := sort_o_val [] okNil 0 [⟨0, [1]⟩] (by unfold okInsts; decide) (by decide)
  refine ⟨K1 + K2 + K3 + K4 + K6 + K7, ?_, ?_, ?_, ?_, ?_, ?_, ?_⟩
  · rw [← aw_sel]; exact h1 _ (by omega)
  · rw [← aw_less1]; exact h2 _ (by omega)
  · rw [← aw_less2]; exact h3 _ (by omega)
  · rw [← aw_less3]; exact h4 _ (by omega)
  · rw [order_Recency.f, if_pos (by decide), rc103]
  · exact h6 _ (by omega)
  · exact h7 _ (by omega)
theorem intarsialaw26_awake.calls (r : Bool) (w : World) (h : intarsialaw26_awake.f = some r) : Calls Try.prog 8 #[] w fun e w' => e = .returned (.bool r) ∧ Below w.heap.size w w' := by
  obtain rfl := Option.some.inj h
  obtain ⟨KK, h1, h2, h3, h4, h5, h6, h7⟩ := awake_rounds
  exact awake8 KK w h1 h2 h3 h4 h5 h6 h7
end Go.Proofs.Ytjkdfjkaeoklmaa.Q
-- Made by this session's wip/tools/myprint.py (the kit's print.py, with this session's hooks) out of the translation; Lean checks it.
namespace Go.Proofs.Ytjkdfjkaeoklmaa.Q
open Go.RowKit Go.Proofs.YtjkdfjkaeoklmaaW.PrintWords Go.Proofs.YtjkdfjkaeoklmaaW.PrintLast Go.Proofs.YtjkdfjkaeoklmaaW.PrintMore
attribute [local go_sem] max2_int min2_int max_two min_two max_three min_three max_four min_four   -- for this text's walks alone
set_option linter.unusedVariables false
set_option linter.unusedSimpArgs false

/-! ### intarsialaw26_OrderSorts: function 3 -/
mutual
def intarsialaw26_OrderSorts.l0 : Nat → Int → List (S32) → Int → List (S70) → List (S45) → Option (Bool)
  | 0, _, _, _, _, _ => none
  | k + 1, x1, x2, x7, x342000, x342001 => if x7 < (x2.length : Int) then (intarsialaw26_OrderSorts.l1 k x1 x2 x7 0 x342000 x342001) else ((order_Sort.f k x342001 x1 x2).bind fun t350 => ((intarsiaref26_Sort.f k x342001 x1 x2).bind fun t353 => ((intarsialaw26_sameInsts.f k t350 t353).bind fun t356 => (if t356 = true then ((intarsialaw26_awake.f).bind fun t357 => (some t357)) else (some false)))))
def intarsialaw26_OrderSorts.l1 : Nat → Int → List (S32) → Int → Int → List (S70) → List (S45) → Option (Bool)
  | 0, _, _, _, _, _, _ => none
  | k + 1, x1, x2, x7, x8, x342000, x342001 => if x8 < (x2.length : Int) then (if 0 ≤ x7 then (if x7 < (x2.length : Int) then (if 0 ≤ x8 then ((order_Less.f k x342001 x1 ((rd_T32 x2 x7).f0) ((rd_T32 x2 x7).f1) ((rd_T32 x2 x8).f0) ((rd_T32 x2 x8).f1)).bind fun t346 => ((intarsiaref26_Less.f k x342001 x1 ((rd_T32 x2 x7).f0) ((rd_T32 x2 x7).f1) ((rd_T32 x2 x8).f0) ((rd_T32 x2 x8).f1)).bind fun t349 => (if (t346 != t349) = true then (some false) else (intarsialaw26_OrderSorts.l1 k x1 x2 x7 (wrap64 (x8 + 1)) x342000 x342001)))) else (none)) else (none)) else (none)) else (intarsialaw26_OrderSorts.l0 k x1 x2 (wrap64 (x7 + 1)) x342000 x342001)
end
def intarsialaw26_OrderSorts.f (k : Nat) (l0_0 : List (S70)) (l0_1 : List (S45)) (a1 : Int) (l2 : List (S32)) : Option (Bool) := (intarsialaw26_light.f k l0_0 l0_1 l2).bind fun t342 => (if t342 = true then (intarsialaw26_OrderSorts.l0 k a1 l2 0 l0_0 l0_1) else ((intarsialaw26_awake.f).bind fun t343 => (some t343)))
theorem intarsialaw26_OrderSorts.mono_l : ∀ k, (∀ y0 y1 y2 y3 y4, LeO (intarsialaw26_OrderSorts.l0 k y0 y1 y2 y3 y4) (intarsialaw26_OrderSorts.l0 (k + 1) y0 y1 y2 y3 y4)) ∧ (∀ y0 y1 y2 y3 y4 y5, LeO (intarsialaw26_OrderSorts.l1 k y0 y1 y2 y3 y4 y5) (intarsialaw26_OrderSorts.l1 (k + 1) y0 y1 y2 y3 y4 y5))
  | 0 => ⟨fun _ _ _ _ _ r h => by simp [intarsialaw26_OrderSorts.l0] at h, fun _ _ _ _ _ _ r h => by simp [intarsialaw26_OrderSorts.l1] at h⟩
  | k + 1 => by
    obtain ⟨ih0, ih1⟩ := intarsialaw26_OrderSorts.mono_l k
    refine ⟨?_, ?_⟩
    · intro y0 y1 y2 y3 y4
      unfold intarsialaw26_OrderSorts.l0
      repeat' first
      | (with_reducible exact ih0 _ _ _ _ _)
      | (with_reducible exact ih1 _ _ _ _ _ _)
      | (with_reducible exact intarsialaw26_light.mono _ _ _ _)
      | (with_reducible exact intarsialaw26_sameInsts.mono _ _ _)
      | (with_reducible exact intarsiaref26_Less.mono _ _ _ _ _ _ _)
      | (with_reducible exact intarsiaref26_Sort.mono _ _ _ _)
      | (with_reducible exact order_Less.mono _ _ _ _ _ _ _)
      | (with_reducible exact order_Sort.mono _ _ _ _)
      | (with_reducible exact LeO.refl _)
      | (with_reducible exact LeO.none _)
      | (with_reducible refine LeO.ite ?_ ?_)
      | (with_reducible refine LeO.bind ?_ (fun _ => ?_))
      | exact ih0 _ _ _ _ _
      | exact ih1 _ _ _ _ _ _
      | exact intarsialaw26_light.mono _ _ _ _
      | exact intarsialaw26_sameInsts.mono _ _ _
      | exact intarsiaref26_Less.mono _ _ _ _ _ _ _
      | exact intarsiaref26_Sort.mono _ _ _ _
      | exact order_Less.mono _ _ _ _ _ _ _
      | exact order_Sort.mono _ _ _ _
      | exact LeO.none _
      | refine LeO.ite ?_ ?_
      | refine LeO.bind ?_ (fun _ => ?_)
    · intro y0 y1 y2 y3 y4 y5
      unfold intarsialaw26_OrderSorts.l1
      repeat' first
      | (with_reducible exact ih0 _ _ _ _ _)
      | (with_reducible exact ih1 _ _ _ _ _ _)
      | (with_reducible exact intarsialaw26_light.mono _ _ _ _)
      | (with_reducible exact intarsialaw26_sameInsts.mono _ _ _)
      | (with_reducible exact intarsiaref26_Less.mono _ _ _ _ _ _ _)
      | (with_reducible exact intarsiaref26_Sort.mono _ _ _ _)
      | (with_reducible exact order_Less.mono _ _ _ _ _ _ _)
      | (with_reducible exact order_Sort.mono _ _ _ _)
      | (with_reducible exact LeO.refl _)
      | (with_reducible exact LeO.none _)
      | (with_reducible refine LeO.ite ?_ ?_)
      | (with_reducible refine LeO.bind ?_ (fun _ => ?_))
      | exact ih0 _ _ _ _ _
      | exact ih1 _ _ _ _ _ _
      | exact intarsialaw26_light.mono _ _ _ _
      | exact intarsialaw26_sameInsts.mono _ _ _
      | exact intarsiaref26_Less.mono _ _ _ _ _ _ _
      | exact intarsiaref26_Sort.mono _ _ _ _
      | exact order_Less.mono _ _ _ _ _ _ _
      | exact order_Sort.mono _ _ _ _
      | exact LeO.none _
      | refine LeO.ite ?_ ?_
      | refine LeO.bind ?_ (fun _ => ?_)
theorem intarsialaw26_OrderSorts.mono : ∀ a0 a1 a2 a3 k, LeO (intarsialaw26_OrderSorts.f k a0 a1 a2 a3) (intarsialaw26_OrderSorts.f (k + 1) a0 a1 a2 a3) := by
  intro a0 a1 a2 a3 k
  obtain ⟨ih0, ih1⟩ := intarsialaw26_OrderSorts.mono_l k
  unfold intarsialaw26_OrderSorts.f
  repeat' first
      | (with_reducible exact ih0 _ _ _ _ _)
      | (with_reducible exact ih1 _ _ _ _ _ _)
      | (with_reducible exact intarsialaw26_light.mono _ _ _ _)
      | (with_reducible exact intarsialaw26_sameInsts.mono _ _ _)
      | (with_reducible exact intarsiaref26_Less.mono _ _ _ _ _ _ _)
      | (with_reducible exact intarsiaref26_Sort.mono _ _ _ _)
      | (with_reducible exact order_Less.mono _ _ _ _ _ _ _)
      | (with_reducible exact order_Sort.mono _ _ _ _)
      | (with_reducible exact LeO.refl _)
      | (with_reducible exact LeO.none _)
      | (with_reducible refine LeO.ite ?_ ?_)
      | (with_reducible refine LeO.bind ?_ (fun _ => ?_))
      | exact ih0 _ _ _ _ _
      | exact ih1 _ _ _ _ _ _
      | exact intarsialaw26_light.mono _ _ _ _
      | exact intarsialaw26_sameInsts.mono _ _ _
      | exact intarsiaref26_Less.mono _ _ _ _ _ _ _
      | exact intarsiaref26_Sort.mono _ _ _ _
      | exact order_Less.mono _ _ _ _ _ _ _
      | exact order_Sort.mono _ _ _ _
      | exact LeO.none _
      | refine LeO.ite ?_ ?_
      | refine LeO.bind ?_ (fun _ => ?_)
def intarsialaw26_OrderSorts.T9 : Bool × List (List Nat × List Nat) := (true, [([], []), ([0], [0]), ([], []), ([], []), ([], []), ([3, 4], [3, 4]), ([5], [5]), ([], []), ([], []), ([7, 8], [7, 8]), ([9], [9]), ([1, 2, 6, 10], [1, 2, 6, 10]), ([], []), ([12], [12]), ([], []), ([], []), ([], []), ([15, 16], [15, 16]), ([17], [17]), ([], []), ([], []), ([19, 20], [19, 20]), ([21], [21]), ([13, 14, 18, 22, 11], [13, 14, 18, 22]), ([11, 23], [11, 23])])
def intarsialaw26_OrderSorts.B9 : List Nat := [0, 1, 0, 0, 0, 24, 56, 0, 0, 384, 896, 2047, 0, 4096, 0, 0, 0, 98304, 229376, 0, 0, 1572864, 3670016, 8388607, 16777215]
theorem intarsialaw26_OrderSorts.tab9 : rtab .any (opsOf Try.f3 9) = intarsialaw26_OrderSorts.T9 := by kernel_rfl
theorem intarsialaw26_OrderSorts.bits9 : waitsOk intarsialaw26_OrderSorts.T9.2 intarsialaw26_OrderSorts.B9 = true := by kernel_rfl
def intarsialaw26_OrderSorts.T11 : Bool × List (List Nat × List Nat) := (true, [([], []), ([0], [0]), ([], []), ([], []), ([1, 2, 3], [1, 2, 3]), ([], []), ([5], [5]), ([], []), ([], []), ([6, 7, 8, 4], [6, 7, 8]), ([4, 9, 9], [4, 9]), ([10, 10], [10]), ([11, 11], [11]), ([11, 12], [11, 12]), ([13, 12, 0, 1, 2, 3, 4, 5, 6, 7, 8, 9, 10, 11, 12, 13], [13])])
def intarsialaw26_OrderSorts.B11 : List Nat := [0, 1, 0, 0, 15, 0, 32, 0, 0, 511, 1023, 2047, 4095, 8191, 16383]
theorem intarsialaw26_OrderSorts.tab11 : rtab .any (opsOf Try.f3 11) = intarsialaw26_OrderSorts.T11 := by kernel_rfl
theorem intarsialaw26_OrderSorts.bits11 : waitsOk intarsialaw26_OrderSorts.T11.2 intarsialaw26_OrderSorts.B11 = true := by kernel_rfl
set_option maxHeartbeats 8000000 in
set_option maxRecDepth 100000 in
theorem intarsialaw26_OrderSorts.calls (k : Nat) (A0_0 : Option Addr) (c0_0 : Nat) (l0_0 : List (S70)) (A0_1 : Option Addr) (c0_1 : Nat) (l0_1 : List (S45)) (a1 : Int) (A2 : Option Addr) (c2 : Nat) (l2 : List (S32)) (r : Bool) (w : World) (hr0_0 : Kd.C k70 w A0_0 l0_0.length l0_0) (hc0_0 : l0_0.length ≤ c0_0) (hr0_1 : Kd.C k45 w A0_1 l0_1.length l0_1) (hc0_1 : l0_1.length ≤ c0_1) (hr2 : Kd.C k32 w A2 l2.length l2) (hc2 : l2.length ≤ c2) (h : intarsialaw26_OrderSorts.f k l0_0 l0_1 a1 l2 = some r) :
    Calls Try.prog 3 #[.agg #[.slice A0_0 l0_0.length c0_0, .slice A0_1 l0_1.length c0_1], .int .u8 a1, .slice A2 l2.length c2] w fun e w' => e = .returned (.bool r) ∧ Below w.heap.size w w' := by
  have hu25 := Try.underlying25
  have hu32 := Try.underlying32
  have HR0_0 := Aside0.mk hr0_0
  have HC0_0 := Aside0.mk hc0_0
  clear hr0_0 hc0_0
  have HR0_1 := Aside0.mk hr0_1
  have HC0_1 := Aside0.mk hc0_1
  clear hr0_1 hc0_1
  have HR2 := Aside0.mk hr2
  have HC2 := Aside0.mk hc2
  clear hr2 hc2
  have HB := Aside0.mk (Below.refl w.heap.size w)
  have H : ((intarsialaw26_light.f k l0_0 l0_1 l2).bind fun t342 => (if t342 = true then (intarsialaw26_OrderSorts.l0 k a1 l2 0 l0_0 l0_1) else ((intarsialaw26_awake.f).bind fun t343 => (some t343)))) = some r := h
  clear h
  replace H := Option.bind_eq_some_iff.mp H
  obtain ⟨t342, A40, H⟩ := H
  replace H : (if t342 = true then (intarsialaw26_OrderSorts.l0 k a1 l2 0 l0_0 l0_1) else ((intarsialaw26_awake.f).bind fun t343 => (some t343))) = some r := H
  have A4 := Aside0.mk A40
  clear A40
  by_cases c5 : t342 = true
  · subst c5
    have H1 : (intarsialaw26_OrderSorts.l0 k a1 l2 0 l0_0 l0_1) = some r := by rw [if_pos rfl] at H; exact H
    clear H
    have H := H1
    clear H1
    have H' := Aside0.mk H
    clear H
    go_enter Try.func3, Try.ntmps3
    go_wp2_with (first | ((with_reducible refine gate_dst (N := 3) rfl ?_); refine box_event ?hg (N := 3) ?hd (cs := #[.slice A0_0 l0_0.length c0_0, .slice A0_1 l0_1.length c0_1]) (t := 25) ?hr ?_; (case hd => rfl); (case hg => rfl); (case hr => first | (go_simp; done) | (go_simp; rfl)); intro gb341 hg w6 hbox hb; have n0_ := Aside0.mk (below_step (by repeat (first | (with_reducible first | exact HB.out | apply below_alloc | apply pw_below_drewN | apply below_drew1) | exact HB.out)) hb); have n1_ := Aside0.mk (hbox); have n2_ := Aside0.mk ((by rw [hg]; exact (below_size (by repeat (first | (with_reducible first | exact HB.out | apply below_alloc | apply pw_below_drewN | apply below_drew1) | exact HB.out))) : w.heap.size ≤ gb341)); have n3_ := Aside0.mk ((by rw [hg]; exact (below_size (by repeat (first | (with_reducible first | exact HB.out | apply below_alloc | apply pw_below_drewN | apply below_drew1) | exact HB.out))) : w.heap.size ≤ gb341)); clear HB; have HB := n0_; have BK341 := n1_; have GW341 := n2_; have GE341 := n3_; clear n0_ n1_ n2_ n3_; clear hb hbox hg; have hcz7_0 : w6.cell? ⟨gb341, 0, none⟩ = some (.slice A0_0 l0_0.length c0_0) := (blk_cell BK341.out 0).trans rfl; have hcz7_1 : w6.cell? ⟨gb341, 1, none⟩ = some (.slice A0_1 l0_1.length c0_1) := (blk_cell BK341.out 1).trans rfl; have hfz7_0 := blk_frozen BK341.out 0; have hfz7_1 := blk_frozen BK341.out 1) | ((with_reducible refine gate_callee (f := 7) rfl ?_); refine goesL_ (some 11) rfl rfl Try.func7 (by kernel_rfl) rfl #[.agg #[.slice A0_0 l0_0.length c0_0, .slice A0_1 l0_1.length c0_1], .slice A2 l2.length c2] rfl (by (try simp only [List.map_toArray, List.map_cons, List.map_nil]); first | done | rfl | (simp only [List.length_drop, List.length_take]; rfl)) ?_; (with_reducible refine (intarsialaw26_light.calls k _ _ l0_0 _ _ l0_1 _ _ l2 true _ ?side1 ?side2 ?side3 ?side4 ?side5 ?side6 A4.out).mono ?_); (case side1 => repeat (first | exact (Kd.C_below HR0_0.out HB.out) | (with_reducible refine Kd.C_alloc ?_ _) | (with_reducible refine Kd.C_drewN ?_ _) | (with_reducible refine Kd.C_drew ?_))); (case side2 => exact HC0_0.out); (case side3 => repeat (first | exact (Kd.C_below HR0_1.out HB.out) | (with_reducible refine Kd.C_alloc ?_ _) | (with_reducible refine Kd.C_drewN ?_ _) | (with_reducible refine Kd.C_drew ?_))); (case side4 => exact HC0_1.out); (case side5 => repeat (first | exact (Kd.C_below HR2.out HB.out) | (with_reducible refine Kd.C_alloc ?_ _) | (with_reducible refine Kd.C_drewN ?_ _) | (with_reducible refine Kd.C_drew ?_))); (case side6 => exact HC2.out); rintro e w8 ⟨rfl, hb⟩; refine ⟨_, rfl, ?_⟩; have n0_ := Aside0.mk (blk_below (g := gb341) (o := .cells #[.slice A0_0 l0_0.length c0_0, .slice A0_1 l0_1.length c0_1] 25 (0, 0)) (by (with_reducible repeat (first | refine blk_drewN ?_ _ | refine blk_drew ?_ | refine blk_alloc ?_ _)); exact BK341.out) hb); have n1_ := Aside0.mk (below_step (by repeat (first | (with_reducible first | exact HB.out | apply below_alloc | apply pw_below_drewN | apply below_drew1 | refine below_set ?_ GE341.out) | exact HB.out)) hb); clear BK341; clear HB; have BK341 := n0_; have HB := n1_; clear n0_ n1_; (try clear hb); (try clear hb2); (try clear hk); (try clear hi)))
    go_loopg [7] k (fun kq v7 w' => ∃ (x7_1 : Int), v7 = .int .i64 x7_1 ∧ Aside0 (intarsialaw26_OrderSorts.l0 kq a1 l2 x7_1 l0_0 l0_1 = some r) ∧ Aside0 (kq ≤ k) ∧ Aside0 (w'.heap[gb341]? = some (.cells #[(.slice A0_0 l0_0.length c0_0), (.slice A0_1 l0_1.length c0_1)] 25 (0, 0))) ∧ Aside0 (Below w.heap.size w w'))
    case atStart => exact ⟨(0), (by first | rfl | (simp; done) | (simp [*]; done)), H', ⟨Nat.le_refl _⟩, ⟨by (with_reducible repeat (first | refine blk_drewN ?_ _ | refine blk_drew ?_ | refine blk_alloc ?_ _)); exact BK341.out⟩, ⟨by repeat (first | (with_reducible first | exact HB.out | apply below_alloc | apply pw_below_drewN | apply below_drew1 | refine below_set ?_ GE341.out) | exact HB.out)⟩⟩
    case round =>
      clear H'
      try clear c2
      try clear p2
      try clear c3
      try clear c5
      try clear c7
      try clear hcz7_0
      try clear hcz7_1
      try clear hfz7_0
      try clear hfz7_1
      obtain ⟨x7_1, rfl, HA, HK1, BK341, HB⟩ := hrel
      cases gk with
      | zero => exact absurd HA.out (by simp [intarsialaw26_OrderSorts.l0])
      | succ k1 =>
        have H := HA.out
        clear HA
        simp only [intarsialaw26_OrderSorts.l0] at H
        by_cases c9 : x7_1 < (l2.length : Int)
        · rw [if_pos c9] at H
          have c9b0 : decide (x7_1 < (l2.length : Int)) = true := decide_eq_true c9
          clear c9
          have H' := Aside0.mk H
          clear H
          go_wp2
          go_loopg [8] k1 (fun kq v8 w' => ∃ (x8_2 : Int), v8 = .int .i64 x8_2 ∧ Aside0 (intarsialaw26_OrderSorts.l1 kq a1 l2 x7_1 x8_2 l0_0 l0_1 = some r) ∧ Aside0 (kq ≤ k1) ∧ Aside0 (w'.heap[gb341]? = some (.cells #[(.slice A0_0 l0_0.length c0_0), (.slice A0_1 l0_1.length c0_1)] 25 (0, 0))) ∧ Aside0 (Below w.heap.size w w'))
          case atStart => exact ⟨(0), (by first | rfl | (simp; done) | (simp [*]; done)), H', ⟨Nat.le_refl _⟩, ⟨by (with_reducible repeat (first | refine blk_drewN ?_ _ | refine blk_drew ?_ | refine blk_alloc ?_ _)); exact BK341.out⟩, ⟨by repeat (first | (with_reducible first | exact HB.out | apply below_alloc | apply pw_below_drewN | apply below_drew1 | refine below_set ?_ GE341.out) | exact HB.out)⟩⟩
          case round =>
            clear H'
            try clear c2
            try clear p2
            try clear c3
            try clear c5
            try clear c7
            try clear c9
            try clear c9b0
            try clear hcz7_0
            try clear hcz7_1
            try clear hfz7_0
            try clear hfz7_1
            try clear p2
            obtain ⟨x8_2, rfl, HA, HK2, BK341, HB⟩ := hrel
            cases gk with
            | zero => exact absurd HA.out (by simp [intarsialaw26_OrderSorts.l1])
            | succ k2 =>
              have H := HA.out
              clear HA
              simp only [intarsialaw26_OrderSorts.l1] at H
              by_cases c10 : x8_2 < (l2.length : Int)
              · rw [if_pos c10] at H
                have c10b0 : decide (x8_2 < (l2.length : Int)) = true := decide_eq_true c10
                clear c10
                by_cases c11 : 0 ≤ x7_1
                · rw [if_pos c11] at H
                  have c11b0 : decide (0 ≤ x7_1) = true := decide_eq_true c11
                  clear c11
                  by_cases c12 : x7_1 < (l2.length : Int)
                  · rw [if_pos c12] at H
                    have c12b0 : decide (x7_1 < (l2.length : Int)) = true := decide_eq_true c12
                    clear c12
                    by_cases c13 : 0 ≤ x8_2
                    · rw [if_pos c13] at H
                      have c13b0 : decide (0 ≤ x8_2) = true := decide_eq_true c13
                      clear c13
                      replace H := Option.bind_eq_some_iff.mp H
                      obtain ⟨t346, A140, H⟩ := H
                      replace H : ((intarsiaref26_Less.f k2 l0_1 a1 ((rd_T32 l2 x7_1).f0) ((rd_T32 l2 x7_1).f1) ((rd_T32 l2 x8_2).f0) ((rd_T32 l2 x8_2).f1)).bind fun t349 => (if (t346 != t349) = true then (some false) else (intarsialaw26_OrderSorts.l1 k2 a1 l2 x7_1 (wrap64 (x8_2 + 1)) l0_0 l0_1))) = some r := H
                      have A14 := Aside0.mk A140
                      clear A140
                      replace H := Option.bind_eq_some_iff.mp H
                      obtain ⟨t349, A150, H⟩ := H
                      replace H : (if (t346 != t349) = true then (some false) else (intarsialaw26_OrderSorts.l1 k2 a1 l2 x7_1 (wrap64 (x8_2 + 1)) l0_0 l0_1)) = some r := H
                      have A15 := Aside0.mk A150
                      clear A150
                      by_cases c16 : (t346 != t349) = true
                      · rw [if_pos c16] at H
                        have c16b0 : (t346 != t349) = true := c16
                        (try (have c16b1 : decide (t346 = t349) = false := by simpa using c16))
                        (try (have c16b2 : (t346 == t349) = false := by simpa using c16))
                        (try (have c16b3 : ¬ (t346 = t349) := by simpa using c16))
                        clear c16
                        obtain rfl := Option.some.inj H
                        try go_wp2
                        have n0_ := Aside0.mk (blk_drew BK341.out)
                        have n1_ := Aside0.mk (below_drew1 HB.out)
                        clear BK341
                        clear HB
                        have BK341 := n0_
                        have HB := n1_
                        clear n0_ n1_
                        have p344 : 0 ≤ (x7_1 : Int) := of_decide_eq_true (by first | (with_reducible assumption) | assumption)
                        have q344 : x7_1 < (l2.length : Int) := of_decide_eq_true (by first | (with_reducible assumption) | assumption)
                        obtain ⟨ad344, A344_1, c344_1, e344, hx344_0, hx344_1, hl344_1, hi344_1⟩ := at_T32 HR2.out x7_1 p344 q344
                        have hw344_1 := hx344_1
                        have hw344_0 := hx344_0
                        cases e344
                        replace hx344_0 := (HB.out.cell (World.block_lt_of_cell? w _ hx344_0)).trans hx344_0
                        replace hx344_1 := (HB.out.cell (World.block_lt_of_cell? w _ hx344_1)).trans hx344_1
                        have HR344_1 := Aside0.mk hi344_1
                        have HC344_1 := Aside0.mk hl344_1
                        clear hi344_1 hl344_1
                        replace p344 := eq_true p344
                        replace q344 := eq_true q344
                        have p345 : 0 ≤ (x8_2 : Int) := of_decide_eq_true (by first | (with_reducible assumption) | assumption)
                        have q345 : x8_2 < (l2.length : Int) := of_decide_eq_true (by first | (with_reducible assumption) | assumption)
                        obtain ⟨ad345, A345_1, c345_1, e345, hx345_0, hx345_1, hl345_1, hi345_1⟩ := at_T32 HR2.out x8_2 p345 q345
                        have hw345_1 := hx345_1
                        have hw345_0 := hx345_0
                        obtain rfl : ad344 = ad345 := (by injection e345)
                        replace hx345_0 := (HB.out.cell (World.block_lt_of_cell? w _ hx345_0)).trans hx345_0
                        replace hx345_1 := (HB.out.cell (World.block_lt_of_cell? w _ hx345_1)).trans hx345_1
                        have HR345_1 := Aside0.mk hi345_1
                        have HC345_1 := Aside0.mk hl345_1
                        clear hi345_1 hl345_1
                        replace p345 := eq_true p345
                        replace q345 := eq_true q345
                        have p347 : 0 ≤ (x7_1 : Int) := of_decide_eq_true (by first | (with_reducible assumption) | assumption)
                        have q347 : x7_1 < (l2.length : Int) := of_decide_eq_true (by first | (with_reducible assumption) | assumption)
                        obtain ⟨ad347, A347_1, c347_1, e347, hx347_0, hx347_1, hl347_1, hi347_1⟩ := at_T32 HR2.out x7_1 p347 q347
                        have hw347_1 := hx347_1
                        have hw347_0 := hx347_0
                        obtain rfl : ad344 = ad347 := (by injection e347)
                        replace hx347_0 := (HB.out.cell (World.block_lt_of_cell? w _ hx347_0)).trans hx347_0
                        replace hx347_1 := (HB.out.cell (World.block_lt_of_cell? w _ hx347_1)).trans hx347_1
                        have HR347_1 := Aside0.mk hi347_1
                        have HC347_1 := Aside0.mk hl347_1
                        clear hi347_1 hl347_1
                        replace p347 := eq_true p347
                        replace q347 := eq_true q347
                        have ea_ := Option.some.inj (hx344_1.symm.trans hx347_1)
                        injection ea_ with ea_ en_ ec_
                        subst ea_
                        subst ec_
                        clear en_
                        have p348 : 0 ≤ (x8_2 : Int) := of_decide_eq_true (by first | (with_reducible assumption) | assumption)
                        have q348 : x8_2 < (l2.length : Int) := of_decide_eq_true (by first | (with_reducible assumption) | assumption)
                        obtain ⟨ad348, A348_1, c348_1, e348, hx348_0, hx348_1, hl348_1, hi348_1⟩ := at_T32 HR2.out x8_2 p348 q348
                        have hw348_1 := hx348_1
                        have hw348_0 := hx348_0
                        obtain rfl : ad344 = ad348 := (by injection e348)
                        replace hx348_0 := (HB.out.cell (World.block_lt_of_cell? w _ hx348_0)).trans hx348_0
                        replace hx348_1 := (HB.out.cell (World.block_lt_of_cell? w _ hx348_1)).trans hx348_1
                        have HR348_1 := Aside0.mk hi348_1
                        have HC348_1 := Aside0.mk hl348_1
                        clear hi348_1 hl348_1
                        replace p348 := eq_true p348
                        replace q348 := eq_true q348
                        have ea_ := Option.some.inj (hx345_1.symm.trans hx348_1)
                        injection ea_ with ea_ en_ ec_
                        subst ea_
                        subst ec_
                        clear en_
                        refine start_ (n := 25) (S := fun w' => w'.cell? ⟨gb341, 0, none⟩ = some (.slice A0_0 l0_0.length c0_0) ∧ w'.cell? ⟨gb341, 1, none⟩ = some (.slice A0_1 l0_1.length c0_1) ∧ w'.cell? (ad344.add ((x7_1).toNat * 2)) = some (.int .i64 ((rd_T32 l2 x7_1).f0)) ∧ w'.cell? ⟨(ad344.add ((x7_1).toNat * 2)).block, (ad344.add ((x7_1).toNat * 2)).off + 1, none⟩ = some (.slice A344_1 ((rd_T32 l2 x7_1).f1).length c344_1) ∧ w'.cell? (ad344.add ((x8_2).toNat * 2)) = some (.int .i64 ((rd_T32 l2 x8_2).f0)) ∧ w'.cell? ⟨(ad344.add ((x8_2).toNat * 2)).block, (ad344.add ((x8_2).toNat * 2)).off + 1, none⟩ = some (.slice A345_1 ((rd_T32 l2 x8_2).f1).length c345_1) ∧ w'.cell? (ad344.add ((x7_1).toNat * 2)) = some (.int .i64 ((rd_T32 l2 x7_1).f0)) ∧ w'.cell? ⟨(ad344.add ((x7_1).toNat * 2)).block, (ad344.add ((x7_1).toNat * 2)).off + 1, none⟩ = some (.slice A344_1 ((rd_T32 l2 x7_1).f1).length c344_1) ∧ w'.cell? (ad344.add ((x8_2).toNat * 2)) = some (.int .i64 ((rd_T32 l2 x8_2).f0)) ∧ w'.cell? ⟨(ad344.add ((x8_2).toNat * 2)).block, (ad344.add ((x8_2).toNat * 2)).off + 1, none⟩ = some (.slice A345_1 ((rd_T32 l2 x8_2).f1).length c345_1)) (ds := []) #[false, false, false, false, false, false, false, false, false, false, false, false, false, false, false, false, false, false, false, false, false, false, false, false, false] (by kernel_rfl) rfl rfl ⟨(blk_cell BK341.out 0).trans rfl, (blk_cell BK341.out 1).trans rfl, ((HB.out.cell (World.block_lt_of_cell? w _ hw344_0)).trans hw344_0), ((HB.out.cell (World.block_lt_of_cell? w _ hw344_1)).trans hw344_1), ((HB.out.cell (World.block_lt_of_cell? w _ hw345_0)).trans hw345_0), ((HB.out.cell (World.block_lt_of_cell? w _ hw345_1)).trans hw345_1), ((HB.out.cell (World.block_lt_of_cell? w _ hw347_0)).trans hw347_0), ((HB.out.cell (World.block_lt_of_cell? w _ hw347_1)).trans hw347_1), ((HB.out.cell (World.block_lt_of_cell? w _ hw348_0)).trans hw348_0), ((HB.out.cell (World.block_lt_of_cell? w _ hw348_1)).trans hw348_1)⟩ (fun hHeld => ?_); refine with_tabW intarsialaw26_OrderSorts.tab9 intarsialaw26_OrderSorts.bits9 (fun HT_ HW_ => ?_)
                        generalize wr.drew = w17 at BK341 HB HR344_1 HR345_1 HR347_1 HR348_1 hx344_0 hx344_1 hx345_0 hx345_1 hx347_0 hx347_1 hx348_0 hx348_1 hHeld ⊢
                        refine pure_ (i := 0) (N := some 26) (v := ?_) (a' := ?_) #[true, false, false, false, false, false, false, false, false, false, false, false, false, false, false, false, false, false, false, false, false, false, false, false, false] rfl rfl (any_of HT_.out (by kernel_rfl)) (fun _ _ _ h => h) (Or.inl ⟨by rfl, ?_⟩) ?_ ?_
                        rotate_left
                        · intro w'
                          go_simp
                          with_reducible rfl
                        rotate_left
                        · simp only [Act.put, List.setIfInBounds_toArray, List.set_cons_zero, List.set_cons_succ, i64_w, i32_w]
                          rfl
                        refine pure_ (i := 2) (N := some 28) (v := ?_) (a' := ?_) #[true, false, true, false, false, false, false, false, false, false, false, false, false, false, false, false, false, false, false, false, false, false, false, false, false] rfl rfl (any_of HT_.out (by kernel_rfl)) (fun _ _ _ h => h) (Or.inl ⟨by rfl, ?_⟩) ?_ ?_
                        rotate_left
                        · intro w'
                          go_simp
                          with_reducible rfl
                        rotate_left
                        · simp only [Act.put, List.setIfInBounds_toArray, List.set_cons_zero, List.set_cons_succ, i64_w, i32_w]
                          rfl
                        refine pure_ (i := 3) (N := some 29) (v := ?_) (a' := ?_) #[true, false, true, true, false, false, false, false, false, false, false, false, false, false, false, false, false, false, false, false, false, false, false, false, false] rfl rfl (any_of HT_.out (by kernel_rfl)) (fun _ _ _ h => h) (Or.inl ⟨by rfl, ?_⟩) ?_ ?_
                        rotate_left
                        · intro w'
                          go_simp
                          with_reducible rfl
                        rotate_left
                        · simp only [Act.put, List.setIfInBounds_toArray, List.set_cons_zero, List.set_cons_succ, i64_w, i32_w]
                          rfl
                        refine pure_ (i := 4) (N := some 30) (v := ?_) (a' := ?_) #[true, false, true, true, true, false, false, false, false, false, false, false, false, false, false, false, false, false, false, false, false, false, false, false, false] rfl rfl (any_of HT_.out (by kernel_rfl)) (fun _ _ _ h => h) (Or.inl ⟨by rfl, ?_⟩) ?_ ?_
                        rotate_left
                        · intro w'
                          go_simp
                          with_reducible rfl
                        rotate_left
                        · simp only [Act.put, List.setIfInBounds_toArray, List.set_cons_zero, List.set_cons_succ, i64_w, i32_w]
                          rfl
                        refine pure_ (i := 5) (N := some 31) (v := ?_) (a' := ?_) #[true, false, true, true, true, true, false, false, false, false, false, false, false, false, false, false, false, false, false, false, false, false, false, false, false] rfl rfl (any_of HT_.out (by kernel_rfl)) (fun _ _ _ h => h) (Or.inl ⟨by rfl, ?_⟩) ?_ ?_
                        rotate_left
                        · intro w'
                          go_simp
                          with_reducible rfl
                        rotate_left
                        · simp only [Act.put, List.setIfInBounds_toArray, List.set_cons_zero, List.set_cons_succ, i64_w, i32_w]
                          rfl
                        refine pure_ (i := 7) (N := some 33) (v := ?_) (a' := ?_) #[true, false, true, true, true, true, false, true, false, false, false, false, false, false, false, false, false, false, false, false, false, false, false, false, false] rfl rfl (any_of HT_.out (by kernel_rfl)) (fun _ _ _ h => h) (Or.inl ⟨by rfl, ?_⟩) ?_ ?_
                        rotate_left
                        · intro w'
                          go_simp
                          with_reducible rfl
                        rotate_left
                        · simp only [Act.put, List.setIfInBounds_toArray, List.set_cons_zero, List.set_cons_succ, i64_w, i32_w]
                          rfl
                        refine pure_ (i := 8) (N := some 34) (v := ?_) (a' := ?_) #[true, false, true, true, true, true, false, true, true, false, false, false, false, false, false, false, false, false, false, false, false, false, false, false, false] rfl rfl (any_of HT_.out (by kernel_rfl)) (fun _ _ _ h => h) (Or.inl ⟨by rfl, ?_⟩) ?_ ?_
                        rotate_left
                        · intro w'
                          go_simp
                          with_reducible rfl
                        rotate_left
                        · simp only [Act.put, List.setIfInBounds_toArray, List.set_cons_zero, List.set_cons_succ, i64_w, i32_w]
                          rfl
                        refine pure_ (i := 9) (N := some 35) (v := ?_) (a' := ?_) #[true, false, true, true, true, true, false, true, true, true, false, false, false, false, false, false, false, false, false, false, false, false, false, false, false] rfl rfl (any_of HT_.out (by kernel_rfl)) (fun _ _ _ h => h) (Or.inl ⟨by rfl, ?_⟩) ?_ ?_
                        rotate_left
                        · intro w'
                          go_simp
                          with_reducible rfl
                        rotate_left
                        · simp only [Act.put, List.setIfInBounds_toArray, List.set_cons_zero, List.set_cons_succ, i64_w, i32_w]
                          rfl
                        refine pure_ (i := 12) (N := some 38) (v := ?_) (a' := ?_) #[true, false, true, true, true, true, false, true, true, true, false, false, true, false, false, false, false, false, false, false, false, false, false, false, false] rfl rfl (any_of HT_.out (by kernel_rfl)) (fun _ _ _ h => h) (Or.inl ⟨by rfl, ?_⟩) ?_ ?_
                        rotate_left
                        · intro w'
                          go_simp
                          with_reducible rfl
                        rotate_left
                        · simp only [Act.put, List.setIfInBounds_toArray, List.set_cons_zero, List.set_cons_succ, i64_w, i32_w]
                          rfl
                        refine pure_ (i := 14) (N := some 40) (v := ?_) (a' := ?_) #[true, false, true, true, true, true, false, true, true, true, false, false, true, false, true, false, false, false, false, false, false, false, false, false, false] rfl rfl (any_of HT_.out (by kernel_rfl)) (fun _ _ _ h => h) (Or.inl ⟨by rfl, ?_⟩) ?_ ?_
                        rotate_left
                        · intro w'
                          go_simp
                          with_reducible rfl
                        rotate_left
                        · simp only [Act.put, List.setIfInBounds_toArray, List.set_cons_zero, List.set_cons_succ, i64_w, i32_w]
                          rfl
                        refine pure_ (i := 15) (N := some 41) (v := ?_) (a' := ?_) #[true, false, true, true, true, true, false, true, true, true, false, false, true, false, true, true, false, false, false, false, false, false, false, false, false] rfl rfl (any_of HT_.out (by kernel_rfl)) (fun _ _ _ h => h) (Or.inl ⟨by rfl, ?_⟩) ?_ ?_
                        rotate_left
                        · intro w'
                          go_simp
                          with_reducible rfl
                        rotate_left
                        · simp only [Act.put, List.setIfInBounds_toArray, List.set_cons_zero, List.set_cons_succ, i64_w, i32_w]
                          rfl
                        refine pure_ (i := 16) (N := some 42) (v := ?_) (a' := ?_) #[true, false, true, true, true, true, false, true, true, true, false, false, true, false, true, true, true, false, false, false, false, false, false, false, false] rfl rfl (any_of HT_.out (by kernel_rfl)) (fun _ _ _ h => h) (Or.inl ⟨by rfl, ?_⟩) ?_ ?_
                        rotate_left
                        · intro w'
                          go_simp
                          with_reducible rfl
                        rotate_left
                        · simp only [Act.put, List.setIfInBounds_toArray, List.set_cons_zero, List.set_cons_succ, i64_w, i32_w]
                          rfl
                        refine pure_ (i := 17) (N := some 43) (v := ?_) (a' := ?_) #[true, false, true, true, true, true, false, true, true, true, false, false, true, false, true, true, true, true, false, false, false, false, false, false, false] rfl rfl (any_of HT_.out (by kernel_rfl)) (fun _ _ _ h => h) (Or.inl ⟨by rfl, ?_⟩) ?_ ?_
                        rotate_left
                        · intro w'
                          go_simp
                          with_reducible rfl
                        rotate_left
                        · simp only [Act.put, List.setIfInBounds_toArray, List.set_cons_zero, List.set_cons_succ, i64_w, i32_w]
                          rfl
                        refine pure_ (i := 19) (N := some 45) (v := ?_) (a' := ?_) #[true, false, true, true, true, true, false, true, true, true, false, false, true, false, true, true, true, true, false, true, false, false, false, false, false] rfl rfl (any_of HT_.out (by kernel_rfl)) (fun _ _ _ h => h) (Or.inl ⟨by rfl, ?_⟩) ?_ ?_
                        rotate_left
                        · intro w'
                          go_simp
                          with_reducible rfl
                        rotate_left
                        · simp only [Act.put, List.setIfInBounds_toArray, List.set_cons_zero, List.set_cons_succ, i64_w, i32_w]
                          rfl
                        refine pure_ (i := 20) (N := some 46) (v := ?_) (a' := ?_) #[true, false, true, true, true, true, false, true, true, true, false, false, true, false, true, true, true, true, false, true, true, false, false, false, false] rfl rfl (any_of HT_.out (by kernel_rfl)) (fun _ _ _ h => h) (Or.inl ⟨by rfl, ?_⟩) ?_ ?_
                        rotate_left
                        · intro w'
                          go_simp
                          with_reducible rfl
                        rotate_left
                        · simp only [Act.put, List.setIfInBounds_toArray, List.set_cons_zero, List.set_cons_succ, i64_w, i32_w]
                          rfl
                        refine pure_ (i := 21) (N := some 47) (v := ?_) (a' := ?_) #[true, false, true, true, true, true, false, true, true, true, false, false, true, false, true, true, true, true, false, true, true, true, false, false, false] rfl rfl (any_of HT_.out (by kernel_rfl)) (fun _ _ _ h => h) (Or.inl ⟨by rfl, ?_⟩) ?_ ?_
                        rotate_left
                        · intro w'
                          go_simp
                          with_reducible rfl
                        rotate_left
                        · simp only [Act.put, List.setIfInBounds_toArray, List.set_cons_zero, List.set_cons_succ, i64_w, i32_w]
                          rfl
                        refine take_ (i := 1) (N := some 27) (v := ?_) (a' := ?_) #[true, true, true, true, true, true, false, true, true, true, false, false, true, false, true, true, true, true, false, true, true, true, false, false, false] rfl rfl (take_ofW HT_.out HW_.out (by kernel_rfl)) (fun _ _ _ h => h) (Or.inl ⟨by rfl, ?_⟩) hHeld ?_ ?_
                        rotate_left
                        · rintro w' ⟨s0, s1, s2, s3, s4, s5, s6, s7, s8, s9⟩
                          go_simp
                          with_reducible rfl
                        rotate_left
                        · simp only [Act.put, List.setIfInBounds_toArray, List.set_cons_zero, List.set_cons_succ, i64_w, i32_w]
                          rfl
                        refine take_ (i := 6) (N := some 32) (v := ?_) (a' := ?_) #[true, true, true, true, true, true, true, true, true, true, false, false, true, false, true, true, true, true, false, true, true, true, false, false, false] rfl rfl (take_ofW HT_.out HW_.out (by kernel_rfl)) (fun _ _ _ h => h) (Or.inl ⟨by rfl, ?_⟩) hHeld ?_ ?_
                        rotate_left
                        · rintro w' ⟨s0, s1, s2, s3, s4, s5, s6, s7, s8, s9⟩
                          go_simp
                          with_reducible rfl
                        rotate_left
                        · simp only [Act.put, List.setIfInBounds_toArray, List.set_cons_zero, List.set_cons_succ, i64_w, i32_w]
                          rfl
                        refine take_ (i := 10) (N := some 36) (v := ?_) (a' := ?_) #[true, true, true, true, true, true, true, true, true, true, true, false, true, false, true, true, true, true, false, true, true, true, false, false, false] rfl rfl (take_ofW HT_.out HW_.out (by kernel_rfl)) (fun _ _ _ h => h) (Or.inl ⟨by rfl, ?_⟩) hHeld ?_ ?_
                        rotate_left
                        · rintro w' ⟨s0, s1, s2, s3, s4, s5, s6, s7, s8, s9⟩
                          go_simp
                          with_reducible rfl
                        rotate_left
                        · simp only [Act.put, List.setIfInBounds_toArray, List.set_cons_zero, List.set_cons_succ, i64_w, i32_w]
                          rfl
                        refine take_ (i := 13) (N := some 39) (v := ?_) (a' := ?_) #[true, true, true, true, true, true, true, true, true, true, true, false, true, true, true, true, true, true, false, true, true, true, false, false, false] rfl rfl (take_ofW HT_.out HW_.out (by kernel_rfl)) (fun _ _ _ h => h) (Or.inl ⟨by rfl, ?_⟩) hHeld ?_ ?_
                        rotate_left
                        · rintro w' ⟨s0, s1, s2, s3, s4, s5, s6, s7, s8, s9⟩
                          go_simp
                          with_reducible rfl
                        rotate_left
                        · simp only [Act.put, List.setIfInBounds_toArray, List.set_cons_zero, List.set_cons_succ, i64_w, i32_w]
                          rfl
                        refine take_ (i := 18) (N := some 44) (v := ?_) (a' := ?_) #[true, true, true, true, true, true, true, true, true, true, true, false, true, true, true, true, true, true, true, true, true, true, false, false, false] rfl rfl (take_ofW HT_.out HW_.out (by kernel_rfl)) (fun _ _ _ h => h) (Or.inl ⟨by rfl, ?_⟩) hHeld ?_ ?_
                        rotate_left
                        · rintro w' ⟨s0, s1, s2, s3, s4, s5, s6, s7, s8, s9⟩
                          go_simp
                          with_reducible rfl
                        rotate_left
                        · simp only [Act.put, List.setIfInBounds_toArray, List.set_cons_zero, List.set_cons_succ, i64_w, i32_w]
                          rfl
                        refine take_ (i := 22) (N := some 48) (v := ?_) (a' := ?_) #[true, true, true, true, true, true, true, true, true, true, true, false, true, true, true, true, true, true, true, true, true, true, true, false, false] rfl rfl (take_ofW HT_.out HW_.out (by kernel_rfl)) (fun _ _ _ h => h) (Or.inl ⟨by rfl, ?_⟩) hHeld ?_ ?_
                        rotate_left
                        · rintro w' ⟨s0, s1, s2, s3, s4, s5, s6, s7, s8, s9⟩
                          go_simp
                          with_reducible rfl
                        rotate_left
                        · simp only [Act.put, List.setIfInBounds_toArray, List.set_cons_zero, List.set_cons_succ, i64_w, i32_w]
                          rfl
                        refine one_ (i := 11) (N := some 37) #[true, true, true, true, true, true, true, true, true, true, true, true, true, true, true, true, true, true, true, true, true, true, true, false, false] rfl rfl (one_of HT_.out (by kernel_rfl)) (by decide) (fun K hK => ?_)
                        refine goes_ Try.func9 (by kernel_rfl) rfl #[.slice A0_1 l0_1.length c0_1, .int .u8 a1, .agg #[.int .i64 ((rd_T32 l2 x7_1).f0), .slice A344_1 ((rd_T32 l2 x7_1).f1).length c344_1], .agg #[.int .i64 ((rd_T32 l2 x8_2).f0), .slice A345_1 ((rd_T32 l2 x8_2).f1).length c345_1]] (by rfl) rfl rfl (by (try simp only [List.map_toArray, List.map_cons, List.map_nil]); first | done | rfl | (simp only [List.length_drop, List.length_take]; rfl)) ?_
                        with_reducible refine (order_Less.calls k2 _ _ l0_1 a1 ((rd_T32 l2 x7_1).f0) _ _ ((rd_T32 l2 x7_1).f1) ((rd_T32 l2 x8_2).f0) _ _ ((rd_T32 l2 x8_2).f1) t346 _ ?side1 ?side2 ?side3 ?side4 ?side5 ?side6 A14.out).mono ?_
                        (case side1 => repeat (first | exact (Kd.C_below HR0_1.out HB.out) | (with_reducible refine Kd.C_alloc ?_ _) | (with_reducible refine Kd.C_drewN ?_ _) | (with_reducible refine Kd.C_drew ?_)))
                        (case side2 => exact HC0_1.out)
                        (case side3 => repeat (first | exact (Kd.C_below HR344_1.out HB.out) | (with_reducible refine Kd.C_alloc ?_ _) | (with_reducible refine Kd.C_drewN ?_ _) | (with_reducible refine Kd.C_drew ?_)))
                        (case side4 => exact HC344_1.out)
                        (case side5 => repeat (first | exact (Kd.C_below HR345_1.out HB.out) | (with_reducible refine Kd.C_alloc ?_ _) | (with_reducible refine Kd.C_drewN ?_ _) | (with_reducible refine Kd.C_drew ?_)))
                        (case side6 => exact HC345_1.out)
                        rintro e w18 ⟨rfl, hb⟩
                        refine ⟨_, rfl, ?_⟩
                        have n0_ := Aside0.mk (blk_below (g := gb341) (o := .cells #[.slice A0_0 l0_0.length c0_0, .slice A0_1 l0_1.length c0_1] 25 (0, 0)) (by (with_reducible repeat (first | refine blk_drewN ?_ _ | refine blk_drew ?_ | refine blk_alloc ?_ _)); exact BK341.out) hb)
                        have n1_ := Aside0.mk (below_step (by repeat (first | (with_reducible first | exact HB.out | apply below_alloc | apply pw_below_drewN | apply below_drew1 | refine below_set ?_ GE341.out) | exact HB.out)) hb)
                        clear BK341
                        clear HB
                        have BK341 := n0_
                        have HB := n1_
                        clear n0_ n1_
                        (try clear hb)
                        (try clear hb2)
                        (try clear hk)
                        (try clear hi)
                        refine hK.out _ _ ⟨(blk_cell BK341.out 0).trans rfl, (blk_cell BK341.out 1).trans rfl, ((HB.out.cell (World.block_lt_of_cell? w _ hw344_0)).trans hw344_0), ((HB.out.cell (World.block_lt_of_cell? w _ hw344_1)).trans hw344_1), ((HB.out.cell (World.block_lt_of_cell? w _ hw345_0)).trans hw345_0), ((HB.out.cell (World.block_lt_of_cell? w _ hw345_1)).trans hw345_1), ((HB.out.cell (World.block_lt_of_cell? w _ hw347_0)).trans hw347_0), ((HB.out.cell (World.block_lt_of_cell? w _ hw347_1)).trans hw347_1), ((HB.out.cell (World.block_lt_of_cell? w _ hw348_0)).trans hw348_0), ((HB.out.cell (World.block_lt_of_cell? w _ hw348_1)).trans hw348_1)⟩ (fun hHeld => ?_)
                        clear hK K
                        refine norm_ (a' := ?_) ?_ ?_
                        rotate_left
                        · show Act.put _ (some 37) _ = _
                          simp only [Act.put, List.setIfInBounds_toArray, List.set_cons_zero, List.set_cons_succ, i64_w, i32_w]
                          rfl
                        refine one_ (i := 23) (N := some 49) #[true, true, true, true, true, true, true, true, true, true, true, true, true, true, true, true, true, true, true, true, true, true, true, true, false] rfl rfl (one_of HT_.out (by kernel_rfl)) (by decide) (fun K hK => ?_)
                        refine goes_ Try.func10 (by kernel_rfl) rfl #[.slice A0_1 l0_1.length c0_1, .int .u8 a1, .agg #[.int .i64 ((rd_T32 l2 x7_1).f0), .slice A344_1 ((rd_T32 l2 x7_1).f1).length c344_1], .agg #[.int .i64 ((rd_T32 l2 x8_2).f0), .slice A345_1 ((rd_T32 l2 x8_2).f1).length c345_1]] (by rfl) rfl rfl (by (try simp only [List.map_toArray, List.map_cons, List.map_nil]); first | done | rfl | (simp only [List.length_drop, List.length_take]; rfl)) ?_
                        with_reducible refine (intarsiaref26_Less.calls k2 _ _ l0_1 a1 ((rd_T32 l2 x7_1).f0) _ _ ((rd_T32 l2 x7_1).f1) ((rd_T32 l2 x8_2).f0) _ _ ((rd_T32 l2 x8_2).f1) t349 _ ?side1 ?side2 ?side3 ?side4 ?side5 ?side6 A15.out).mono ?_
                        (case side1 => repeat (first | exact (Kd.C_below HR0_1.out HB.out) | (with_reducible refine Kd.C_alloc ?_ _) | (with_reducible refine Kd.C_drewN ?_ _) | (with_reducible refine Kd.C_drew ?_)))
                        (case side2 => exact HC0_1.out)
                        (case side3 => repeat (first | exact (Kd.C_below HR347_1.out HB.out) | (with_reducible refine Kd.C_alloc ?_ _) | (with_reducible refine Kd.C_drewN ?_ _) | (with_reducible refine Kd.C_drew ?_)))
                        (case side4 => exact HC347_1.out)
                        (case side5 => repeat (first | exact (Kd.C_below HR348_1.out HB.out) | (with_reducible refine Kd.C_alloc ?_ _) | (with_reducible refine Kd.C_drewN ?_ _) | (with_reducible refine Kd.C_drew ?_)))
                        (case side6 => exact HC348_1.out)
                        rintro e w19 ⟨rfl, hb⟩
                        refine ⟨_, rfl, ?_⟩
                        have n0_ := Aside0.mk (blk_below (g := gb341) (o := .cells #[.slice A0_0 l0_0.length c0_0, .slice A0_1 l0_1.length c0_1] 25 (0, 0)) (by (with_reducible repeat (first | refine blk_drewN ?_ _ | refine blk_drew ?_ | refine blk_alloc ?_ _)); exact BK341.out) hb)
                        have n1_ := Aside0.mk (below_step (by repeat (first | (with_reducible first | exact HB.out | apply below_alloc | apply pw_below_drewN | apply below_drew1 | refine below_set ?_ GE341.out) | exact HB.out)) hb)
                        clear BK341
                        clear HB
                        have BK341 := n0_
                        have HB := n1_
                        clear n0_ n1_
                        (try clear hb)
                        (try clear hb2)
                        (try clear hk)
                        (try clear hi)
                        refine hK.out _ _ ⟨(blk_cell BK341.out 0).trans rfl, (blk_cell BK341.out 1).trans rfl, ((HB.out.cell (World.block_lt_of_cell? w _ hw344_0)).trans hw344_0), ((HB.out.cell (World.block_lt_of_cell? w _ hw344_1)).trans hw344_1), ((HB.out.cell (World.block_lt_of_cell? w _ hw345_0)).trans hw345_0), ((HB.out.cell (World.block_lt_of_cell? w _ hw345_1)).trans hw345_1), ((HB.out.cell (World.block_lt_of_cell? w _ hw347_0)).trans hw347_0), ((HB.out.cell (World.block_lt_of_cell? w _ hw347_1)).trans hw347_1), ((HB.out.cell (World.block_lt_of_cell? w _ hw348_0)).trans hw348_0), ((HB.out.cell (World.block_lt_of_cell? w _ hw348_1)).trans hw348_1)⟩ (fun hHeld => ?_)
                        clear hK K
                        refine norm_ (a' := ?_) ?_ ?_
                        rotate_left
                        · show Act.put _ (some 49) _ = _
                          simp only [Act.put, List.setIfInBounds_toArray, List.set_cons_zero, List.set_cons_succ, i64_w, i32_w]
                          rfl
                        refine pure_ (i := 24) (N := some 50) (v := ?_) (a' := ?_) #[true, true, true, true, true, true, true, true, true, true, true, true, true, true, true, true, true, true, true, true, true, true, true, true, true] rfl rfl (any_of HT_.out (by kernel_rfl)) (fun _ _ _ h => h) (Or.inl ⟨by rfl, ?_⟩) ?_ ?_
                        rotate_left
                        · intro w'
                          go_simp
                          with_reducible rfl
                        rotate_left
                        · simp only [Act.put, List.setIfInBounds_toArray, List.set_cons_zero, List.set_cons_succ, i64_w, i32_w]
                          rfl
                        refine done_ (done_of HT_.out (by kernel_rfl)) ?_
                        try go_wp2
                        go_ret
                        exact ⟨by first | rfl | (simp [errW_none, errW_some] <;> rfl) | (simp [*, errW_none, errW_some] <;> rfl), by repeat (first | (with_reducible first | exact HB.out | apply below_alloc | apply pw_below_drewN | apply below_drew1 | refine below_set ?_ GE341.out) | exact HB.out)⟩
                      · rw [if_neg c16] at H
                        have c16b0 : (t346 != t349) = false := by simpa using c16
                        (try (have c16b1 : decide (t346 = t349) = true := by simpa using c16))
                        (try (have c16b2 : (t346 == t349) = true := by simpa using c16))
                        clear c16
                        have H' := Aside0.mk H
                        clear H
                        try go_wp2
                        have n0_ := Aside0.mk (blk_drew BK341.out)
                        have n1_ := Aside0.mk (below_drew1 HB.out)
                        clear BK341
                        clear HB
                        have BK341 := n0_
                        have HB := n1_
                        clear n0_ n1_
                        have p344 : 0 ≤ (x7_1 : Int) := of_decide_eq_true (by first | (with_reducible assumption) | assumption)
                        have q344 : x7_1 < (l2.length : Int) := of_decide_eq_true (by first | (with_reducible assumption) | assumption)
                        obtain ⟨ad344, A344_1, c344_1, e344, hx344_0, hx344_1, hl344_1, hi344_1⟩ := at_T32 HR2.out x7_1 p344 q344
                        have hw344_1 := hx344_1
                        have hw344_0 := hx344_0
                        cases e344
                        replace hx344_0 := (HB.out.cell (World.block_lt_of_cell? w _ hx344_0)).trans hx344_0
                        replace hx344_1 := (HB.out.cell (World.block_lt_of_cell? w _ hx344_1)).trans hx344_1
                        have HR344_1 := Aside0.mk hi344_1
                        have HC344_1 := Aside0.mk hl344_1
                        clear hi344_1 hl344_1
                        replace p344 := eq_true p344
                        replace q344 := eq_true q344
                        have p345 : 0 ≤ (x8_2 : Int) := of_decide_eq_true (by first | (with_reducible assumption) | assumption)
                        have q345 : x8_2 < (l2.length : Int) := of_decide_eq_true (by first | (with_reducible assumption) | assumption)
                        obtain ⟨ad345, A345_1, c345_1, e345, hx345_0, hx345_1, hl345_1, hi345_1⟩ := at_T32 HR2.out x8_2 p345 q345
                        have hw345_1 := hx345_1
                        have hw345_0 := hx345_0
                        obtain rfl : ad344 = ad345 := (by injection e345)
                        replace hx345_0 := (HB.out.cell (World.block_lt_of_cell? w _ hx345_0)).trans hx345_0
                        replace hx345_1 := (HB.out.cell (World.block_lt_of_cell? w _ hx345_1)).trans hx345_1
                        have HR345_1 := Aside0.mk hi345_1
                        have HC345_1 := Aside0.mk hl345_1
                        clear hi345_1 hl345_1
                        replace p345 := eq_true p345
                        replace q345 := eq_true q345
                        have p347 : 0 ≤ (x7_1 : Int) := of_decide_eq_true (by first | (with_reducible assumption) | assumption)
                        have q347 : x7_1 < (l2.length : Int) := of_decide_eq_true (by first | (with_reducible assumption) | assumption)
                        obtain ⟨ad347, A347_1, c347_1, e347, hx347_0, hx347_1, hl347_1, hi347_1⟩ := at_T32 HR2.out x7_1 p347 q347
                        have hw347_1 := hx347_1
                        have hw347_0 := hx347_0
                        obtain rfl : ad344 = ad347 := (by injection e347)
                        replace hx347_0 := (HB.out.cell (World.block_lt_of_cell? w _ hx347_0)).trans hx347_0
                        replace hx347_1 := (HB.out.cell (World.block_lt_of_cell? w _ hx347_1)).trans hx347_1
                        have HR347_1 := Aside0.mk hi347_1
                        have HC347_1 := Aside0.mk hl347_1
                        clear hi347_1 hl347_1
                        replace p347 := eq_true p347
                        replace q347 := eq_true q347
                        have ea_ := Option.some.inj (hx344_1.symm.trans hx347_1)
                        injection ea_ with ea_ en_ ec_
                        subst ea_
                        subst ec_
                        clear en_
                        have p348 : 0 ≤ (x8_2 : Int) := of_decide_eq_true (by first | (with_reducible assumption) | assumption)
                        have q348 : x8_2 < (l2.length : Int) := of_decide_eq_true (by first | (with_reducible assumption) | assumption)
                        obtain ⟨ad348, A348_1, c348_1, e348, hx348_0, hx348_1, hl348_1, hi348_1⟩ := at_T32 HR2.out x8_2 p348 q348
                        have hw348_1 := hx348_1
                        have hw348_0 := hx348_0
                        obtain rfl : ad344 = ad348 := (by injection e348)
                        replace hx348_0 := (HB.out.cell (World.block_lt_of_cell? w _ hx348_0)).trans hx348_0
                        replace hx348_1 := (HB.out.cell (World.block_lt_of_cell? w _ hx348_1)).trans hx348_1
                        have HR348_1 := Aside0.mk hi348_1
                        have HC348_1 := Aside0.mk hl348_1
                        clear hi348_1 hl348_1
                        replace p348 := eq_true p348
                        replace q348 := eq_true q348
                        have ea_ := Option.some.inj (hx345_1.symm.trans hx348_1)
                        injection ea_ with ea_ en_ ec_
                        subst ea_
                        subst ec_
                        clear en_
                        refine start_ (n := 25) (S := fun w' => w'.cell? ⟨gb341, 0, none⟩ = some (.slice A0_0 l0_0.length c0_0) ∧ w'.cell? ⟨gb341, 1, none⟩ = some (.slice A0_1 l0_1.length c0_1) ∧ w'.cell? (ad344.add ((x7_1).toNat * 2)) = some (.int .i64 ((rd_T32 l2 x7_1).f0)) ∧ w'.cell? ⟨(ad344.add ((x7_1).toNat * 2)).block, (ad344.add ((x7_1).toNat * 2)).off + 1, none⟩ = some (.slice A344_1 ((rd_T32 l2 x7_1).f1).length c344_1) ∧ w'.cell? (ad344.add ((x8_2).toNat * 2)) = some (.int .i64 ((rd_T32 l2 x8_2).f0)) ∧ w'.cell? ⟨(ad344.add ((x8_2).toNat * 2)).block, (ad344.add ((x8_2).toNat * 2)).off + 1, none⟩ = some (.slice A345_1 ((rd_T32 l2 x8_2).f1).length c345_1) ∧ w'.cell? (ad344.add ((x7_1).toNat * 2)) = some (.int .i64 ((rd_T32 l2 x7_1).f0)) ∧ w'.cell? ⟨(ad344.add ((x7_1).toNat * 2)).block, (ad344.add ((x7_1).toNat * 2)).off + 1, none⟩ = some (.slice A344_1 ((rd_T32 l2 x7_1).f1).length c344_1) ∧ w'.cell? (ad344.add ((x8_2).toNat * 2)) = some (.int .i64 ((rd_T32 l2 x8_2).f0)) ∧ w'.cell? ⟨(ad344.add ((x8_2).toNat * 2)).block, (ad344.add ((x8_2).toNat * 2)).off + 1, none⟩ = some (.slice A345_1 ((rd_T32 l2 x8_2).f1).length c345_1)) (ds := []) #[false, false, false, false, false, false, false, false, false, false, false, false, false, false, false, false, false, false, false, false, false, false, false, false, false] (by kernel_rfl) rfl rfl ⟨(blk_cell BK341.out 0).trans rfl, (blk_cell BK341.out 1).trans rfl, ((HB.out.cell (World.block_lt_of_cell? w _ hw344_0)).trans hw344_0), ((HB.out.cell (World.block_lt_of_cell? w _ hw344_1)).trans hw344_1), ((HB.out.cell (World.block_lt_of_cell? w _ hw345_0)).trans hw345_0), ((HB.out.cell (World.block_lt_of_cell? w _ hw345_1)).trans hw345_1), ((HB.out.cell (World.block_lt_of_cell? w _ hw347_0)).trans hw347_0), ((HB.out.cell (World.block_lt_of_cell? w _ hw347_1)).trans hw347_1), ((HB.out.cell (World.block_lt_of_cell? w _ hw348_0)).trans hw348_0), ((HB.out.cell (World.block_lt_of_cell? w _ hw348_1)).trans hw348_1)⟩ (fun hHeld => ?_); refine with_tabW intarsialaw26_OrderSorts.tab9 intarsialaw26_OrderSorts.bits9 (fun HT_ HW_ => ?_)
                        generalize wr.drew = w20 at BK341 HB HR344_1 HR345_1 HR347_1 HR348_1 hx344_0 hx344_1 hx345_0 hx345_1 hx347_0 hx347_1 hx348_0 hx348_1 hHeld ⊢
                        refine pure_ (i := 0) (N := some 26) (v := ?_) (a' := ?_) #[true, false, false, false, false, false, false, false, false, false, false, false, false, false, false, false, false, false, false, false, false, false, false, false, false] rfl rfl (any_of HT_.out (by kernel_rfl)) (fun _ _ _ h => h) (Or.inl ⟨by rfl, ?_⟩) ?_ ?_
                        rotate_left
                        · intro w'
                          go_simp
                          with_reducible rfl
                        rotate_left
                        · simp only [Act.put, List.setIfInBounds_toArray, List.set_cons_zero, List.set_cons_succ, i64_w, i32_w]
                          rfl
                        refine pure_ (i := 2) (N := some 28) (v := ?_) (a' := ?_) #[true, false, true, false, false, false, false, false, false, false, false, false, false, false, false, false, false, false, false, false, false, false, false, false, false] rfl rfl (any_of HT_.out (by kernel_rfl)) (fun _ _ _ h => h) (Or.inl ⟨by rfl, ?_⟩) ?_ ?_
                        rotate_left
                        · intro w'
                          go_simp
                          with_reducible rfl
                        rotate_left
                        · simp only [Act.put, List.setIfInBounds_toArray, List.set_cons_zero, List.set_cons_succ, i64_w, i32_w]
                          rfl
                        refine pure_ (i := 3) (N := some 29) (v := ?_) (a' := ?_) #[true, false, true, true, false, false, false, false, false, false, false, false, false, false, false, false, false, false, false, false, false, false, false, false, false] rfl rfl (any_of HT_.out (by kernel_rfl)) (fun _ _ _ h => h) (Or.inl ⟨by rfl, ?_⟩) ?_ ?_
                        rotate_left
                        · intro w'
                          go_simp
                          with_reducible rfl
                        rotate_left
                        · simp only [Act.put, List.setIfInBounds_toArray, List.set_cons_zero, List.set_cons_succ, i64_w, i32_w]
                          rfl
                        refine pure_ (i := 4) (N := some 30) (v := ?_) (a' := ?_) #[true, false, true, true, true, false, false, false, false, false, false, false, false, false, false, false, false, false, false, false, false, false, false, false, false] rfl rfl (any_of HT_.out (by kernel_rfl)) (fun _ _ _ h => h) (Or.inl ⟨by rfl, ?_⟩) ?_ ?_
                        rotate_left
                        · intro w'
                          go_simp
                          with_reducible rfl
                        rotate_left
                        · simp only [Act.put, List.setIfInBounds_toArray, List.set_cons_zero, List.set_cons_succ, i64_w, i32_w]
                          rfl
                        refine pure_ (i := 5) (N := some 31) (v := ?_) (a' := ?_) #[true, false, true, true, true, true, false, false, false, false, false, false, false, false, false, false, false, false, false, false, false, false, false, false, false] rfl rfl (any_of HT_.out (by kernel_rfl)) (fun _ _ _ h => h) (Or.inl ⟨by rfl, ?_⟩) ?_ ?_
                        rotate_left
                        · intro w'
                          go_simp
                          with_reducible rfl
                        rotate_left
                        · simp only [Act.put, List.setIfInBounds_toArray, List.set_cons_zero, List.set_cons_succ, i64_w, i32_w]
                          rfl
                        refine pure_ (i := 7) (N := some 33) (v := ?_) (a' := ?_) #[true, false, true, true, true, true, false, true, false, false, false, false, false, false, false, false, false, false, false, false, false, false, false, false, false] rfl rfl (any_of HT_.out (by kernel_rfl)) (fun _ _ _ h => h) (Or.inl ⟨by rfl, ?_⟩) ?_ ?_
                        rotate_left
                        · intro w'
                          go_simp
                          with_reducible rfl
                        rotate_left
                        · simp only [Act.put, List.setIfInBounds_toArray, List.set_cons_zero, List.set_cons_succ, i64_w, i32_w]
                          rfl
                        refine pure_ (i := 8) (N := some 34) (v := ?_) (a' := ?_) #[true, false, true, true, true, true, false, true, true, false, false, false, false, false, false, false, false, false, false, false, false, false, false, false, false] rfl rfl (any_of HT_.out (by kernel_rfl)) (fun _ _ _ h => h) (Or.inl ⟨by rfl, ?_⟩) ?_ ?_
                        rotate_left
                        · intro w'
                          go_simp
                          with_reducible rfl
                        rotate_left
                        · simp only [Act.put, List.setIfInBounds_toArray, List.set_cons_zero, List.set_cons_succ, i64_w, i32_w]
                          rfl
                        refine pure_ (i := 9) (N := some 35) (v := ?_) (a' := ?_) #[true, false, true, true, true, true, false, true, true, true, false, false, false, false, false, false, false, false, false, false, false, false, false, false, false] rfl rfl (any_of HT_.out (by kernel_rfl)) (fun _ _ _ h => h) (Or.inl ⟨by rfl, ?_⟩) ?_ ?_
                        rotate_left
                        · intro w'
                          go_simp
                          with_reducible rfl
                        rotate_left
                        · simp only [Act.put, List.setIfInBounds_toArray, List.set_cons_zero, List.set_cons_succ, i64_w, i32_w]
                          rfl
                        refine pure_ (i := 12) (N := some 38) (v := ?_) (a' := ?_) #[true, false, true, true, true, true, false, true, true, true, false, false, true, false, false, false, false, false, false, false, false, false, false, false, false] rfl rfl (any_of HT_.out (by kernel_rfl)) (fun _ _ _ h => h) (Or.inl ⟨by rfl, ?_⟩) ?_ ?_
                        rotate_left
                        · intro w'
                          go_simp
                          with_reducible rfl
                        rotate_left
                        · simp only [Act.put, List.setIfInBounds_toArray, List.set_cons_zero, List.set_cons_succ, i64_w, i32_w]
                          rfl
                        refine pure_ (i := 14) (N := some 40) (v := ?_) (a' := ?_) #[true, false, true, true, true, true, false, true, true, true, false, false, true, false, true, false, false, false, false, false, false, false, false, false, false] rfl rfl (any_of HT_.out (by kernel_rfl)) (fun _ _ _ h => h) (Or.inl ⟨by rfl, ?_⟩) ?_ ?_
                        rotate_left
                        · intro w'
                          go_simp
                          with_reducible rfl
                        rotate_left
                        · simp only [Act.put, List.setIfInBounds_toArray, List.set_cons_zero, List.set_cons_succ, i64_w, i32_w]
                          rfl
                        refine pure_ (i := 15) (N := some 41) (v := ?_) (a' := ?_) #[true, false, true, true, true, true, false, true, true, true, false, false, true, false, true, true, false, false, false, false, false, false, false, false, false] rfl rfl (any_of HT_.out (by kernel_rfl)) (fun _ _ _ h => h) (Or.inl ⟨by rfl, ?_⟩) ?_ ?_
                        rotate_left
                        · intro w'
                          go_simp
                          with_reducible rfl
                        rotate_left
                        · simp only [Act.put, List.setIfInBounds_toArray, List.set_cons_zero, List.set_cons_succ, i64_w, i32_w]
                          rfl
                        refine pure_ (i := 16) (N := some 42) (v := ?_) (a' := ?_) #[true, false, true, true, true, true, false, true, true, true, false, false, true, false, true, true, true, false, false, false, false, false, false, false, false] rfl rfl (any_of HT_.out (by kernel_rfl)) (fun _ _ _ h => h) (Or.inl ⟨by rfl, ?_⟩) ?_ ?_
                        rotate_left
                        · intro w'
                          go_simp
                          with_reducible rfl
                        rotate_left
                        · simp only [Act.put, List.setIfInBounds_toArray, List.set_cons_zero, List.set_cons_succ, i64_w, i32_w]
                          rfl
                        refine pure_ (i := 17) (N := some 43) (v := ?_) (a' := ?_) #[true, false, true, true, true, true, false, true, true, true, false, false, true, false, true, true, true, true, false, false, false, false, false, false, false] rfl rfl (any_of HT_.out (by kernel_rfl)) (fun _ _ _ h => h) (Or.inl ⟨by rfl, ?_⟩) ?_ ?_
                        rotate_left
                        · intro w'
                          go_simp
                          with_reducible rfl
                        rotate_left
                        · simp only [Act.put, List.setIfInBounds_toArray, List.set_cons_zero, List.set_cons_succ, i64_w, i32_w]
                          rfl
                        refine pure_ (i := 19) (N := some 45) (v := ?_) (a' := ?_) #[true, false, true, true, true, true, false, true, true, true, false, false, true, false, true, true, true, true, false, true, false, false, false, false, false] rfl rfl (any_of HT_.out (by kernel_rfl)) (fun _ _ _ h => h) (Or.inl ⟨by rfl, ?_⟩) ?_ ?_
                        rotate_left
                        · intro w'
                          go_simp
                          with_reducible rfl
                        rotate_left
                        · simp only [Act.put, List.setIfInBounds_toArray, List.set_cons_zero, List.set_cons_succ, i64_w, i32_w]
                          rfl
                        refine pure_ (i := 20) (N := some 46) (v := ?_) (a' := ?_) #[true, false, true, true, true, true, false, true, true, true, false, false, true, false, true, true, true, true, false, true, true, false, false, false, false] rfl rfl (any_of HT_.out (by kernel_rfl)) (fun _ _ _ h => h) (Or.inl ⟨by rfl, ?_⟩) ?_ ?_
                        rotate_left
                        · intro w'
                          go_simp
                          with_reducible rfl
                        rotate_left
                        · simp only [Act.put, List.setIfInBounds_toArray, List.set_cons_zero, List.set_cons_succ, i64_w, i32_w]
                          rfl
                        refine pure_ (i := 21) (N := some 47) (v := ?_) (a' := ?_) #[true, false, true, true, true, true, false, true, true, true, false, false, true, false, true, true, true, true, false, true, true, true, false, false, false] rfl rfl (any_of HT_.out (by kernel_rfl)) (fun _ _ _ h => h) (Or.inl ⟨by rfl, ?_⟩) ?_ ?_
                        rotate_left
                        · intro w'
                          go_simp
                          with_reducible rfl
                        rotate_left
                        · simp only [Act.put, List.setIfInBounds_toArray, List.set_cons_zero, List.set_cons_succ, i64_w, i32_w]
                          rfl
                        refine take_ (i := 1) (N := some 27) (v := ?_) (a' := ?_) #[true, true, true, true, true, true, false, true, true, true, false, false, true, false, true, true, true, true, false, true, true, true, false, false, false] rfl rfl (take_ofW HT_.out HW_.out (by kernel_rfl)) (fun _ _ _ h => h) (Or.inl ⟨by rfl, ?_⟩) hHeld ?_ ?_
                        rotate_left
                        · rintro w' ⟨s0, s1, s2, s3, s4, s5, s6, s7, s8, s9⟩
                          go_simp
                          with_reducible rfl
                        rotate_left
                        · simp only [Act.put, List.setIfInBounds_toArray, List.set_cons_zero, List.set_cons_succ, i64_w, i32_w]
                          rfl
                        refine take_ (i := 6) (N := some 32) (v := ?_) (a' := ?_) #[true, true, true, true, true, true, true, true, true, true, false, false, true, false, true, true, true, true, false, true, true, true, false, false, false] rfl rfl (take_ofW HT_.out HW_.out (by kernel_rfl)) (fun _ _ _ h => h) (Or.inl ⟨by rfl, ?_⟩) hHeld ?_ ?_
                        rotate_left
                        · rintro w' ⟨s0, s1, s2, s3, s4, s5, s6, s7, s8, s9⟩
                          go_simp
                          with_reducible rfl
                        rotate_left
                        · simp only [Act.put, List.setIfInBounds_toArray, List.set_cons_zero, List.set_cons_succ, i64_w, i32_w]
                          rfl
                        refine take_ (i := 10) (N := some 36) (v := ?_) (a' := ?_) #[true, true, true, true, true, true, true, true, true, true, true, false, true, false, true, true, true, true, false, true, true, true, false, false, false] rfl rfl (take_ofW HT_.out HW_.out (by kernel_rfl)) (fun _ _ _ h => h) (Or.inl ⟨by rfl, ?_⟩) hHeld ?_ ?_
                        rotate_left
                        · rintro w' ⟨s0, s1, s2, s3, s4, s5, s6, s7, s8, s9⟩
                          go_simp
                          with_reducible rfl
                        rotate_left
                        · simp only [Act.put, List.setIfInBounds_toArray, List.set_cons_zero, List.set_cons_succ, i64_w, i32_w]
                          rfl
                        refine take_ (i := 13) (N := some 39) (v := ?_) (a' := ?_) #[true, true, true, true, true, true, true, true, true, true, true, false, true, true, true, true, true, true, false, true, true, true, false, false, false] rfl rfl (take_ofW HT_.out HW_.out (by kernel_rfl)) (fun _ _ _ h => h) (Or.inl ⟨by rfl, ?_⟩) hHeld ?_ ?_
                        rotate_left
                        · rintro w' ⟨s0, s1, s2, s3, s4, s5, s6, s7, s8, s9⟩
                          go_simp
                          with_reducible rfl
                        rotate_left
                        · simp only [Act.put, List.setIfInBounds_toArray, List.set_cons_zero, List.set_cons_succ, i64_w, i32_w]
                          rfl
                        refine take_ (i := 18) (N := some 44) (v := ?_) (a' := ?_) #[true, true, true, true, true, true, true, true, true, true, true, false, true, true, true, true, true, true, true, true, true, true, false, false, false] rfl rfl (take_ofW HT_.out HW_.out (by kernel_rfl)) (fun _ _ _ h => h) (Or.inl ⟨by rfl, ?_⟩) hHeld ?_ ?_
                        rotate_left
                        · rintro w' ⟨s0, s1, s2, s3, s4, s5, s6, s7, s8, s9⟩
                          go_simp
                          with_reducible rfl
                        rotate_left
                        · simp only [Act.put, List.setIfInBounds_toArray, List.set_cons_zero, List.set_cons_succ, i64_w, i32_w]
                          rfl
                        refine take_ (i := 22) (N := some 48) (v := ?_) (a' := ?_) #[true, true, true, true, true, true, true, true, true, true, true, false, true, true, true, true, true, true, true, true, true, true, true, false, false] rfl rfl (take_ofW HT_.out HW_.out (by kernel_rfl)) (fun _ _ _ h => h) (Or.inl ⟨by rfl, ?_⟩) hHeld ?_ ?_
                        rotate_left
                        · rintro w' ⟨s0, s1, s2, s3, s4, s5, s6, s7, s8, s9⟩
                          go_simp
                          with_reducible rfl
                        rotate_left
                        · simp only [Act.put, List.setIfInBounds_toArray, List.set_cons_zero, List.set_cons_succ, i64_w, i32_w]
                          rfl
                        refine one_ (i := 11) (N := some 37) #[true, true, true, true, true, true, true, true, true, true, true, true, true, true, true, true, true, true, true, true, true, true, true, false, false] rfl rfl (one_of HT_.out (by kernel_rfl)) (by decide) (fun K hK => ?_)
                        refine goes_ Try.func9 (by kernel_rfl) rfl #[.slice A0_1 l0_1.length c0_1, .int .u8 a1, .agg #[.int .i64 ((rd_T32 l2 x7_1).f0), .slice A344_1 ((rd_T32 l2 x7_1).f1).length c344_1], .agg #[.int .i64 ((rd_T32 l2 x8_2).f0), .slice A345_1 ((rd_T32 l2 x8_2).f1).length c345_1]] (by rfl) rfl rfl (by (try simp only [List.map_toArray, List.map_cons, List.map_nil]); first | done | rfl | (simp only [List.length_drop, List.length_take]; rfl)) ?_
                        with_reducible refine (order_Less.calls k2 _ _ l0_1 a1 ((rd_T32 l2 x7_1).f0) _ _ ((rd_T32 l2 x7_1).f1) ((rd_T32 l2 x8_2).f0) _ _ ((rd_T32 l2 x8_2).f1) t346 _ ?side1 ?side2 ?side3 ?side4 ?side5 ?side6 A14.out).mono ?_
                        (case side1 => repeat (first | exact (Kd.C_below HR0_1.out HB.out) | (with_reducible refine Kd.C_alloc ?_ _) | (with_reducible refine Kd.C_drewN ?_ _) | (with_reducible refine Kd.C_drew ?_)))
                        (case side2 => exact HC0_1.out)
                        (case side3 => repeat (first | exact (Kd.C_below HR344_1.out HB.out) | (with_reducible refine Kd.C_alloc ?_ _) | (with_reducible refine Kd.C_drewN ?_ _) | (with_reducible refine Kd.C_drew ?_)))
                        (case side4 => exact HC344_1.out)
                        (case side5 => repeat (first | exact (Kd.C_below HR345_1.out HB.out) | (with_reducible refine Kd.C_alloc ?_ _) | (with_reducible refine Kd.C_drewN ?_ _) | (with_reducible refine Kd.C_drew ?_)))
                        (case side6 => exact HC345_1.out)
                        rintro e w21 ⟨rfl, hb⟩
                        refine ⟨_, rfl, ?_⟩
                        have n0_ := Aside0.mk (blk_below (g := gb341) (o := .cells #[.slice A0_0 l0_0.length c0_0, .slice A0_1 l0_1.length c0_1] 25 (0, 0)) (by (with_reducible repeat (first | refine blk_drewN ?_ _ | refine blk_drew ?_ | refine blk_alloc ?_ _)); exact BK341.out) hb)
                        have n1_ := Aside0.mk (below_step (by repeat (first | (with_reducible first | exact HB.out | apply below_alloc | apply pw_below_drewN | apply below_drew1 | refine below_set ?_ GE341.out) | exact HB.out)) hb)
                        clear BK341
                        clear HB
                        have BK341 := n0_
                        have HB := n1_
                        clear n0_ n1_
                        (try clear hb)
                        (try clear hb2)
                        (try clear hk)
                        (try clear hi)
                        refine hK.out _ _ ⟨(blk_cell BK341.out 0).trans rfl, (blk_cell BK341.out 1).trans rfl, ((HB.out.cell (World.block_lt_of_cell? w _ hw344_0)).trans hw344_0), ((HB.out.cell (World.block_lt_of_cell? w _ hw344_1)).trans hw344_1), ((HB.out.cell (World.block_lt_of_cell? w _ hw345_0)).trans hw345_0), ((HB.out.cell (World.block_lt_of_cell? w _ hw345_1)).trans hw345_1), ((HB.out.cell (World.block_lt_of_cell? w _ hw347_0)).trans hw347_0), ((HB.out.cell (World.block_lt_of_cell? w _ hw347_1)).trans hw347_1), ((HB.out.cell (World.block_lt_of_cell? w _ hw348_0)).trans hw348_0), ((HB.out.cell (World.block_lt_of_cell? w _ hw348_1)).trans hw348_1)⟩ (fun hHeld => ?_)
                        clear hK K
                        refine norm_ (a' := ?_) ?_ ?_
                        rotate_left
                        · show Act.put _ (some 37) _ = _
                          simp only [Act.put, List.setIfInBounds_toArray, List.set_cons_zero, List.set_cons_succ, i64_w, i32_w]
                          rfl
                        refine one_ (i := 23) (N := some 49) #[true, true, true, true, true, true, true, true, true, true, true, true, true, true, true, true, true, true, true, true, true, true, true, true, false] rfl rfl (one_of HT_.out (by kernel_rfl)) (by decide) (fun K hK => ?_)
                        refine goes_ Try.func10 (by kernel_rfl) rfl #[.slice A0_1 l0_1.length c0_1, .int .u8 a1, .agg #[.int .i64 ((rd_T32 l2 x7_1).f0), .slice A344_1 ((rd_T32 l2 x7_1).f1).length c344_1], .agg #[.int .i64 ((rd_T32 l2 x8_2).f0), .slice A345_1 ((rd_T32 l2 x8_2).f1).length c345_1]] (by rfl) rfl rfl (by (try simp only [List.map_toArray, List.map_cons, List.map_nil]); first | done | rfl | (simp only [List.length_drop, List.length_take]; rfl)) ?_
                        with_reducible refine (intarsiaref26_Less.calls k2 _ _ l0_1 a1 ((rd_T32 l2 x7_1).f0) _ _ ((rd_T32 l2 x7_1).f1) ((rd_T32 l2 x8_2).f0) _ _ ((rd_T32 l2 x8_2).f1) t349 _ ?side1 ?side2 ?side3 ?side4 ?side5 ?side6 A15.out).mono ?_
                        (case side1 => repeat (first | exact (Kd.C_below HR0_1.out HB.out) | (with_reducible refine Kd.C_alloc ?_ _) | (with_reducible refine Kd.C_drewN ?_ _) | (with_reducible refine Kd.C_drew ?_)))
                        (case side2 => exact HC0_1.out)
                        (case side3 => repeat (first | exact (Kd.C_below HR347_1.out HB.out) | (with_reducible refine Kd.C_alloc ?_ _) | (with_reducible refine Kd.C_drewN ?_ _) | (with_reducible refine Kd.C_drew ?_)))
                        (case side4 => exact HC347_1.out)
                        (case side5 => repeat (first | exact (Kd.C_below HR348_1.out HB.out) | (with_reducible refine Kd.C_alloc ?_ _) | (with_reducible refine Kd.C_drewN ?_ _) | (with_reducible refine Kd.C_drew ?_)))
                        (case side6 => exact HC348_1.out)
                        rintro e w22 ⟨rfl, hb⟩
                        refine ⟨_, rfl, ?_⟩
                        have n0_ := Aside0.mk (blk_below (g := gb341) (o := .cells #[.slice A0_0 l0_0.length c0_0, .slice A0_1 l0_1.length c0_1] 25 (0, 0)) (by (with_reducible repeat (first | refine blk_drewN ?_ _ | refine blk_drew ?_ | refine blk_alloc ?_ _)); exact BK341.out) hb)
                        have n1_ := Aside0.mk (below_step (by repeat (first | (with_reducible first | exact HB.out | apply below_alloc | apply pw_below_drewN | apply below_drew1 | refine below_set ?_ GE341.out) | exact HB.out)) hb)
                        clear BK341
                        clear HB
                        have BK341 := n0_
                        have HB := n1_
                        clear n0_ n1_
                        (try clear hb)
                        (try clear hb2)
                        (try clear hk)
                        (try clear hi)
                        refine hK.out _ _ ⟨(blk_cell BK341.out 0).trans rfl, (blk_cell BK341.out 1).trans rfl, ((HB.out.cell (World.block_lt_of_cell? w _ hw344_0)).trans hw344_0), ((HB.out.cell (World.block_lt_of_cell? w _ hw344_1)).trans hw344_1), ((HB.out.cell (World.block_lt_of_cell? w _ hw345_0)).trans hw345_0), ((HB.out.cell (World.block_lt_of_cell? w _ hw345_1)).trans hw345_1), ((HB.out.cell (World.block_lt_of_cell? w _ hw347_0)).trans hw347_0), ((HB.out.cell (World.block_lt_of_cell? w _ hw347_1)).trans hw347_1), ((HB.out.cell (World.block_lt_of_cell? w _ hw348_0)).trans hw348_0), ((HB.out.cell (World.block_lt_of_cell? w _ hw348_1)).trans hw348_1)⟩ (fun hHeld => ?_)
                        clear hK K
                        refine norm_ (a' := ?_) ?_ ?_
                        rotate_left
                        · show Act.put _ (some 49) _ = _
                          simp only [Act.put, List.setIfInBounds_toArray, List.set_cons_zero, List.set_cons_succ, i64_w, i32_w]
                          rfl
                        refine pure_ (i := 24) (N := some 50) (v := ?_) (a' := ?_) #[true, true, true, true, true, true, true, true, true, true, true, true, true, true, true, true, true, true, true, true, true, true, true, true, true] rfl rfl (any_of HT_.out (by kernel_rfl)) (fun _ _ _ h => h) (Or.inl ⟨by rfl, ?_⟩) ?_ ?_
                        rotate_left
                        · intro w'
                          go_simp
                          with_reducible rfl
                        rotate_left
                        · simp only [Act.put, List.setIfInBounds_toArray, List.set_cons_zero, List.set_cons_succ, i64_w, i32_w]
                          rfl
                        refine done_ (done_of HT_.out (by kernel_rfl)) ?_
                        try go_wp2
                        go_roundg k2
                        case measure => have := HK1.out; have := HK2.out; omega
                        case rel => exact ⟨(wrap64 (x8_2 + 1)), (by first | rfl | (simp; done) | (simp [*]; done)), H', ⟨by have := HK1.out; have := HK2.out; omega⟩, ⟨by (with_reducible repeat (first | refine blk_drewN ?_ _ | refine blk_drew ?_ | refine blk_alloc ?_ _)); exact BK341.out⟩, ⟨by repeat (first | (with_reducible first | exact HB.out | apply below_alloc | apply pw_below_drewN | apply below_drew1 | refine below_set ?_ GE341.out) | exact HB.out)⟩⟩
                    · rw [if_neg c13] at H
                      exact absurd H (by simp)
                  · rw [if_neg c12] at H
                    exact absurd H (by simp)
                · rw [if_neg c11] at H
                  exact absurd H (by simp)
              · rw [if_neg c10] at H
                have c10b0 : decide (x8_2 < (l2.length : Int)) = false := decide_eq_false c10
                clear c10
                have H' := Aside0.mk H
                clear H
                go_wp2
                go_roundg k2
                case measure => have := HK1.out; have := HK2.out; omega
                case rel => exact ⟨(wrap64 (x7_1 + 1)), (by first | rfl | (simp; done) | (simp [*]; done)), H', ⟨by have := HK1.out; have := HK2.out; omega⟩, ⟨by (with_reducible repeat (first | refine blk_drewN ?_ _ | refine blk_drew ?_ | refine blk_alloc ?_ _)); exact BK341.out⟩, ⟨by repeat (first | (with_reducible first | exact HB.out | apply below_alloc | apply pw_below_drewN | apply below_drew1 | refine below_set ?_ GE341.out) | exact HB.out)⟩⟩
        · rw [if_neg c9] at H
          have c9b0 : decide (x7_1 < (l2.length : Int)) = false := decide_eq_false c9
          clear c9
          replace H := Option.bind_eq_some_iff.mp H
          obtain ⟨t350, A230, H⟩ := H
          replace H : ((intarsiaref26_Sort.f k1 l0_1 a1 l2).bind fun t353 => ((intarsialaw26_sameInsts.f k1 t350 t353).bind fun t356 => (if t356 = true then ((intarsialaw26_awake.f).bind fun t357 => (some t357)) else (some false)))) = some r := H
          have A23 := Aside0.mk A230
          clear A230
          replace H := Option.bind_eq_some_iff.mp H
          obtain ⟨t353, A240, H⟩ := H
          replace H : ((intarsialaw26_sameInsts.f k1 t350 t353).bind fun t356 => (if t356 = true then ((intarsialaw26_awake.f).bind fun t357 => (some t357)) else (some false))) = some r := H
          have A24 := Aside0.mk A240
          clear A240
          replace H := Option.bind_eq_some_iff.mp H
          obtain ⟨t356, A250, H⟩ := H
          replace H : (if t356 = true then ((intarsialaw26_awake.f).bind fun t357 => (some t357)) else (some false)) = some r := H
          have A25 := Aside0.mk A250
          clear A250
          by_cases c26 : t356 = true
          · subst c26
            have H1 : ((intarsialaw26_awake.f).bind fun t357 => (some t357)) = some r := by rw [if_pos rfl] at H; exact H
            clear H
            have H := H1
            clear H1
            replace H := Option.bind_eq_some_iff.mp H
            obtain ⟨t357, A270, H⟩ := H
            replace H : (some t357) = some r := H
            have A27 := Aside0.mk A270
            clear A270
            obtain rfl := Option.some.inj H
            try go_wp2
            have n0_ := Aside0.mk (blk_drew BK341.out)
            have n1_ := Aside0.mk (below_drew1 HB.out)
            clear BK341
            clear HB
            have BK341 := n0_
            have HB := n1_
            clear n0_ n1_
            refine start_ (n := 15) (S := fun w' => w'.cell? ⟨gb341, 0, none⟩ = some (.slice A0_0 l0_0.length c0_0) ∧ w'.cell? ⟨gb341, 1, none⟩ = some (.slice A0_1 l0_1.length c0_1)) (ds := []) #[false, false, false, false, false, false, false, false, false, false, false, false, false, false, false] (by kernel_rfl) rfl rfl ⟨(blk_cell BK341.out 0).trans rfl, (blk_cell BK341.out 1).trans rfl⟩ (fun hHeld => ?_); refine with_tabW intarsialaw26_OrderSorts.tab11 intarsialaw26_OrderSorts.bits11 (fun HT_ HW_ => ?_)
            generalize wr.drew = w28 at BK341 HB hHeld ⊢
            refine pure_ (i := 0) (N := some 51) (v := ?_) (a' := ?_) #[true, false, false, false, false, false, false, false, false, false, false, false, false, false, false] rfl rfl (any_of HT_.out (by kernel_rfl)) (fun _ _ _ h => h) (Or.inl ⟨by rfl, ?_⟩) ?_ ?_
            rotate_left
            · intro w'
              go_simp
              with_reducible rfl
            rotate_left
            · simp only [Act.put, List.setIfInBounds_toArray, List.set_cons_zero, List.set_cons_succ, i64_w, i32_w]
              rfl
            refine pure_ (i := 2) (N := some 53) (v := ?_) (a' := ?_) #[true, false, true, false, false, false, false, false, false, false, false, false, false, false, false] rfl rfl (any_of HT_.out (by kernel_rfl)) (fun _ _ _ h => h) (Or.inl ⟨by rfl, ?_⟩) ?_ ?_
            rotate_left
            · intro w'
              go_simp
              with_reducible rfl
            rotate_left
            · simp only [Act.put, List.setIfInBounds_toArray, List.set_cons_zero, List.set_cons_succ, i64_w, i32_w]
              rfl
            refine pure_ (i := 3) (N := some 54) (v := ?_) (a' := ?_) #[true, false, true, true, false, false, false, false, false, false, false, false, false, false, false] rfl rfl (any_of HT_.out (by kernel_rfl)) (fun _ _ _ h => h) (Or.inl ⟨by rfl, ?_⟩) ?_ ?_
            rotate_left
            · intro w'
              go_simp
              with_reducible rfl
            rotate_left
            · simp only [Act.put, List.setIfInBounds_toArray, List.set_cons_zero, List.set_cons_succ, i64_w, i32_w]
              rfl
            refine pure_ (i := 5) (N := some 56) (v := ?_) (a' := ?_) #[true, false, true, true, false, true, false, false, false, false, false, false, false, false, false] rfl rfl (any_of HT_.out (by kernel_rfl)) (fun _ _ _ h => h) (Or.inl ⟨by rfl, ?_⟩) ?_ ?_
            rotate_left
            · intro w'
              go_simp
              with_reducible rfl
            rotate_left
            · simp only [Act.put, List.setIfInBounds_toArray, List.set_cons_zero, List.set_cons_succ, i64_w, i32_w]
              rfl
            refine pure_ (i := 7) (N := some 58) (v := ?_) (a' := ?_) #[true, false, true, true, false, true, false, true, false, false, false, false, false, false, false] rfl rfl (any_of HT_.out (by kernel_rfl)) (fun _ _ _ h => h) (Or.inl ⟨by rfl, ?_⟩) ?_ ?_
            rotate_left
            · intro w'
              go_simp
              with_reducible rfl
            rotate_left
            · simp only [Act.put, List.setIfInBounds_toArray, List.set_cons_zero, List.set_cons_succ, i64_w, i32_w]
              rfl
            refine pure_ (i := 8) (N := some 59) (v := ?_) (a' := ?_) #[true, false, true, true, false, true, false, true, true, false, false, false, false, false, false] rfl rfl (any_of HT_.out (by kernel_rfl)) (fun _ _ _ h => h) (Or.inl ⟨by rfl, ?_⟩) ?_ ?_
            rotate_left
            · intro w'
              go_simp
              with_reducible rfl
            rotate_left
            · simp only [Act.put, List.setIfInBounds_toArray, List.set_cons_zero, List.set_cons_succ, i64_w, i32_w]
              rfl
            refine take_ (i := 1) (N := some 52) (v := ?_) (a' := ?_) #[true, true, true, true, false, true, false, true, true, false, false, false, false, false, false] rfl rfl (take_ofW HT_.out HW_.out (by kernel_rfl)) (fun _ _ _ h => h) (Or.inl ⟨by rfl, ?_⟩) hHeld ?_ ?_
            rotate_left
            · rintro w' ⟨s0, s1⟩
              go_simp
              with_reducible rfl
            rotate_left
            · simp only [Act.put, List.setIfInBounds_toArray, List.set_cons_zero, List.set_cons_succ, i64_w, i32_w]
              rfl
            refine take_ (i := 6) (N := some 57) (v := ?_) (a' := ?_) #[true, true, true, true, false, true, true, true, true, false, false, false, false, false, false] rfl rfl (take_ofW HT_.out HW_.out (by kernel_rfl)) (fun _ _ _ h => h) (Or.inl ⟨by rfl, ?_⟩) hHeld ?_ ?_
            rotate_left
            · rintro w' ⟨s0, s1⟩
              go_simp
              with_reducible rfl
            rotate_left
            · simp only [Act.put, List.setIfInBounds_toArray, List.set_cons_zero, List.set_cons_succ, i64_w, i32_w]
              rfl
            refine one_ (i := 4) (N := some 55) #[true, true, true, true, true, true, true, true, true, false, false, false, false, false, false] rfl rfl (one_of HT_.out (by kernel_rfl)) (by decide) (fun K hK => ?_)
            refine goes_ Try.func12 (by kernel_rfl) rfl #[.slice A0_1 l0_1.length c0_1, .int .u8 a1, .slice A2 l2.length c2] (by rfl) rfl rfl (by (try simp only [List.map_toArray, List.map_cons, List.map_nil]); first | done | rfl | (simp only [List.length_drop, List.length_take]; rfl)) ?_
            with_reducible refine (order_Sort.calls k1 _ _ l0_1 a1 (fun k_ => k_ < w.heap.size) _ _ l2 t350 _ ?side1 ?side2 ?side3 A23.out).mono ?_
            (case side1 => repeat (first | exact (Kd.C_below HR0_1.out HB.out) | (with_reducible refine Kd.C_alloc ?_ _) | (with_reducible refine Kd.C_drewN ?_ _) | (with_reducible refine Kd.C_drew ?_)))
            (case side2 => exact HC0_1.out)
            (case side3 => exact Kd.V_mk HC2.out (Kd.F_below (Kd.C_F k32_heap HR2.out) (by repeat (first | (with_reducible first | exact HB.out | apply below_alloc | apply pw_below_drewN | apply below_drew1 | refine below_set ?_ GE341.out) | exact HB.out))))
            rintro e w29 ⟨v351, rfl, ho0, hb⟩
            refine ⟨_, rfl, ?_⟩
            have n0_ := Aside0.mk (Kd.V_lower (Kd.V_mono (ok' := fun k_ => k_ ≠ gb341) ho0 (fun k_ hk_ => Or.elim hk_ (fun hs_ => fun e_ => Nat.not_le.2 hs_ (by rw [e_]; exact GW341.out)) (fun hn_ => (Kd.freshB (g := gb341) (o := .cells #[.slice A0_0 l0_0.length c0_0, .slice A0_1 l0_1.length c0_1] 25 (0, 0)) (by (with_reducible repeat (first | refine blk_drewN ?_ _ | refine blk_drew ?_ | refine blk_alloc ?_ _)); exact BK341.out) k_ hn_)))) (below_size (by repeat (first | (with_reducible first | exact HB.out | apply below_alloc | apply pw_below_drewN | apply below_drew1 | refine below_set ?_ GE341.out) | exact HB.out))))
            have n1_ := Aside0.mk (blk_below (g := gb341) (o := .cells #[.slice A0_0 l0_0.length c0_0, .slice A0_1 l0_1.length c0_1] 25 (0, 0)) (by (with_reducible repeat (first | refine blk_drewN ?_ _ | refine blk_drew ?_ | refine blk_alloc ?_ _)); exact BK341.out) hb)
            have n2_ := Aside0.mk (below_step (by repeat (first | (with_reducible first | exact HB.out | apply below_alloc | apply pw_below_drewN | apply below_drew1 | refine below_set ?_ GE341.out) | exact HB.out)) hb)
            clear BK341
            clear HB
            have HO352 := n0_
            have BK341 := n1_
            have HB := n2_
            clear n0_ n1_ n2_
            (try clear hb)
            (try clear hb2)
            (try clear hk)
            (try clear hi)
            (try clear ho0)
            refine hK.out _ _ ⟨(blk_cell BK341.out 0).trans rfl, (blk_cell BK341.out 1).trans rfl⟩ (fun hHeld => ?_)
            clear hK K
            refine norm_ (a' := ?_) ?_ ?_
            rotate_left
            · show Act.put _ (some 55) _ = _
              simp only [Act.put, List.setIfInBounds_toArray, List.set_cons_zero, List.set_cons_succ, i64_w, i32_w]
              rfl
            refine one_ (i := 9) (N := some 60) #[true, true, true, true, true, true, true, true, true, true, false, false, false, false, false] rfl rfl (one_of HT_.out (by kernel_rfl)) (by decide) (fun K hK => ?_)
            refine goes_ Try.func13 (by kernel_rfl) rfl #[.slice A0_1 l0_1.length c0_1, .int .u8 a1, .slice A2 l2.length c2] (by rfl) rfl rfl (by (try simp only [List.map_toArray, List.map_cons, List.map_nil]); first | done | rfl | (simp only [List.length_drop, List.length_take]; rfl)) ?_
            with_reducible refine (intarsiaref26_Sort.calls k1 _ _ l0_1 a1 (fun k_ => k_ < w.heap.size) _ _ l2 t353 _ ?side1 ?side2 ?side3 A24.out).mono ?_
            (case side1 => repeat (first | exact (Kd.C_below HR0_1.out HB.out) | (with_reducible refine Kd.C_alloc ?_ _) | (with_reducible refine Kd.C_drewN ?_ _) | (with_reducible refine Kd.C_drew ?_)))
            (case side2 => exact HC0_1.out)
            (case side3 => exact Kd.V_mk HC2.out (Kd.F_below (Kd.C_F k32_heap HR2.out) (by repeat (first | (with_reducible first | exact HB.out | apply below_alloc | apply pw_below_drewN | apply below_drew1 | refine below_set ?_ GE341.out) | exact HB.out))))
            rintro e w30 ⟨v354, rfl, ho0, hb⟩
            refine ⟨_, rfl, ?_⟩
            have n0_ := Aside0.mk (Kd.V_below (by (with_reducible repeat (first | apply Kd.V_alloc | apply Kd.V_drewN | apply Kd.V_drew)); exact HO352.out) hb)
            have n1_ := Aside0.mk (Kd.V_lower (Kd.V_mono (ok' := fun k_ => k_ ≠ gb341) ho0 (fun k_ hk_ => Or.elim hk_ (fun hs_ => fun e_ => Nat.not_le.2 hs_ (by rw [e_]; exact GW341.out)) (fun hn_ => (Kd.freshB (g := gb341) (o := .cells #[.slice A0_0 l0_0.length c0_0, .slice A0_1 l0_1.length c0_1] 25 (0, 0)) (by (with_reducible repeat (first | refine blk_drewN ?_ _ | refine blk_drew ?_ | refine blk_alloc ?_ _)); exact BK341.out) k_ hn_)))) (below_size (by repeat (first | (with_reducible first | exact HB.out | apply below_alloc | apply pw_below_drewN | apply below_drew1 | refine below_set ?_ GE341.out) | exact HB.out))))
            have n2_ := Aside0.mk (blk_below (g := gb341) (o := .cells #[.slice A0_0 l0_0.length c0_0, .slice A0_1 l0_1.length c0_1] 25 (0, 0)) (by (with_reducible repeat (first | refine blk_drewN ?_ _ | refine blk_drew ?_ | refine blk_alloc ?_ _)); exact BK341.out) hb)
            have n3_ := Aside0.mk (below_step (by repeat (first | (with_reducible first | exact HB.out | apply below_alloc | apply pw_below_drewN | apply below_drew1 | refine below_set ?_ GE341.out) | exact HB.out)) hb)
            clear HO352
            clear BK341
            clear HB
            have HO352 := n0_
            have HO355 := n1_
            have BK341 := n2_
            have HB := n3_
            clear n0_ n1_ n2_ n3_
            (try clear hb)
            (try clear hb2)
            (try clear hk)
            (try clear hi)
            (try clear ho0)
            obtain ⟨Ao31, co31, eo31⟩ := Kd.V_slice HO352.out
            (first | subst eo31 | (injection eo31 with f1_ f2_ f3_; have f4_ := f1_.symm; have f5_ := f3_.symm; clear f1_ f2_ f3_; subst f4_; subst f5_))
            obtain ⟨Ao32, co32, eo32⟩ := Kd.V_slice HO355.out
            (first | subst eo32 | (injection eo32 with f1_ f2_ f3_; have f4_ := f1_.symm; have f5_ := f3_.symm; clear f1_ f2_ f3_; subst f4_; subst f5_))
            refine hK.out _ _ ⟨(blk_cell BK341.out 0).trans rfl, (blk_cell BK341.out 1).trans rfl⟩ (fun hHeld => ?_)
            clear hK K
            refine norm_ (a' := ?_) ?_ ?_
            rotate_left
            · show Act.put _ (some 60) _ = _
              simp only [Act.put, List.setIfInBounds_toArray, List.set_cons_zero, List.set_cons_succ, i64_w, i32_w]
              rfl
            refine one_ (i := 10) (N := some 61) #[true, true, true, true, true, true, true, true, true, true, true, false, false, false, false] rfl rfl (one_of HT_.out (by kernel_rfl)) (by decide) (fun K hK => ?_)
            refine goes_ Try.func11 (by kernel_rfl) rfl #[.slice Ao31 t350.length co31, .slice Ao32 t353.length co32] (by rfl) rfl rfl (by (try simp only [List.map_toArray, List.map_cons, List.map_nil]); first | done | rfl | (simp only [List.length_drop, List.length_take]; rfl)) ?_
            with_reducible refine (intarsialaw26_sameInsts.calls k1 _ _ t350 _ _ t353 true _ ?side1 ?side2 ?side3 ?side4 A25.out).mono ?_
            (case side1 => repeat (first | exact (Kd.V_reads' HO352.out).2.2 | (with_reducible refine Kd.C_alloc ?_ _) | (with_reducible refine Kd.C_drewN ?_ _) | (with_reducible refine Kd.C_drew ?_)))
            (case side2 => exact (Kd.V_reads' HO352.out).2.1)
            (case side3 => repeat (first | exact (Kd.V_reads' HO355.out).2.2 | (with_reducible refine Kd.C_alloc ?_ _) | (with_reducible refine Kd.C_drewN ?_ _) | (with_reducible refine Kd.C_drew ?_)))
            (case side4 => exact (Kd.V_reads' HO355.out).2.1)
            rintro e w33 ⟨rfl, hb⟩
            refine ⟨_, rfl, ?_⟩
            have n0_ := Aside0.mk (Kd.V_below (by (with_reducible repeat (first | apply Kd.V_alloc | apply Kd.V_drewN | apply Kd.V_drew)); exact HO352.out) hb)
            have n1_ := Aside0.mk (Kd.V_below (by (with_reducible repeat (first | apply Kd.V_alloc | apply Kd.V_drewN | apply Kd.V_drew)); exact HO355.out) hb)
            have n2_ := Aside0.mk (blk_below (g := gb341) (o := .cells #[.slice A0_0 l0_0.length c0_0, .slice A0_1 l0_1.length c0_1] 25 (0, 0)) (by (with_reducible repeat (first | refine blk_drewN ?_ _ | refine blk_drew ?_ | refine blk_alloc ?_ _)); exact BK341.out) hb)
            have n3_ := Aside0.mk (below_step (by repeat (first | (with_reducible first | exact HB.out | apply below_alloc | apply pw_below_drewN | apply below_drew1 | refine below_set ?_ GE341.out) | exact HB.out)) hb)
            clear HO352
            clear HO355
            clear BK341
            clear HB
            have HO352 := n0_
            have HO355 := n1_
            have BK341 := n2_
            have HB := n3_
            clear n0_ n1_ n2_ n3_
            (try clear hb)
            (try clear hb2)
            (try clear hk)
            (try clear hi)
            refine hK.out _ _ ⟨(blk_cell BK341.out 0).trans rfl, (blk_cell BK341.out 1).trans rfl⟩ (fun hHeld => ?_)
            clear hK K
            refine norm_ (a' := ?_) ?_ ?_
            rotate_left
            · show Act.put _ (some 61) _ = _
              simp only [Act.put, List.setIfInBounds_toArray, List.set_cons_zero, List.set_cons_succ, i64_w, i32_w]
              rfl
            refine pure_ (i := 11) (N := some 62) (v := ?_) (a' := ?_) #[true, true, true, true, true, true, true, true, true, true, true, true, false, false, false] rfl rfl (any_of HT_.out (by kernel_rfl)) (fun _ _ _ h => h) (Or.inl ⟨by rfl, ?_⟩) ?_ ?_
            rotate_left
            · intro w'
              go_simp
              with_reducible rfl
            rotate_left
            · simp only [Act.put, List.setIfInBounds_toArray, List.set_cons_zero, List.set_cons_succ, i64_w, i32_w]
              rfl
            refine one_ (i := 12) (N := some 63) #[true, true, true, true, true, true, true, true, true, true, true, true, true, false, false] rfl rfl (one_of HT_.out (by kernel_rfl)) (by decide) (fun K hK => ?_)
            refine goes_ Try.func8 (by kernel_rfl) rfl #[] (by rfl) rfl rfl (by (try simp only [List.map_toArray, List.map_cons, List.map_nil]); first | done | rfl | (simp only [List.length_drop, List.length_take]; rfl)) ?_
            with_reducible refine (intarsialaw26_awake.calls  t357 _ A27.out).mono ?_
            rintro e w34 ⟨rfl, hb⟩
            refine ⟨_, rfl, ?_⟩
            have n0_ := Aside0.mk (Kd.V_below (by (with_reducible repeat (first | apply Kd.V_alloc | apply Kd.V_drewN | apply Kd.V_drew)); exact HO352.out) hb)
            have n1_ := Aside0.mk (Kd.V_below (by (with_reducible repeat (first | apply Kd.V_alloc | apply Kd.V_drewN | apply Kd.V_drew)); exact HO355.out) hb)
            have n2_ := Aside0.mk (blk_below (g := gb341) (o := .cells #[.slice A0_0 l0_0.length c0_0, .slice A0_1 l0_1.length c0_1] 25 (0, 0)) (by (with_reducible repeat (first | refine blk_drewN ?_ _ | refine blk_drew ?_ | refine blk_alloc ?_ _)); exact BK341.out) hb)
            have n3_ := Aside0.mk (below_step (by repeat (first | (with_reducible first | exact HB.out | apply below_alloc | apply pw_below_drewN | apply below_drew1 | refine below_set ?_ GE341.out) | exact HB.out)) hb)
            clear HO352
            clear HO355
            clear BK341
            clear HB
            have HO352 := n0_
            have HO355 := n1_
            have BK341 := n2_
            have HB := n3_
            clear n0_ n1_ n2_ n3_
            (try clear hb)
            (try clear hb2)
            (try clear hk)
            (try clear hi)
            refine hK.out _ _ ⟨(blk_cell BK341.out 0).trans rfl, (blk_cell BK341.out 1).trans rfl⟩ (fun hHeld => ?_)
            clear hK K
            refine norm_ (a' := ?_) ?_ ?_
            rotate_left
            · show Act.put _ (some 63) _ = _
              simp only [Act.put, List.setIfInBounds_toArray, List.set_cons_zero, List.set_cons_succ, i64_w, i32_w]
              rfl
            refine pure_ (i := 13) (N := some 64) (v := ?_) (a' := ?_) #[true, true, true, true, true, true, true, true, true, true, true, true, true, true, false] rfl rfl (any_of HT_.out (by kernel_rfl)) (fun _ _ _ h => h) (Or.inl ⟨by rfl, ?_⟩) ?_ ?_
            rotate_left
            · intro w'
              go_simp
              with_reducible rfl
            rotate_left
            · simp only [Act.put, List.setIfInBounds_toArray, List.set_cons_zero, List.set_cons_succ, i64_w, i32_w]
              rfl
            refine pure_ (i := 14) (N := some 6) (v := ?_) (a' := ?_) #[true, true, true, true, true, true, true, true, true, true, true, true, true, true, true] rfl rfl (any_of HT_.out (by kernel_rfl)) (fun _ _ _ h => h) (Or.inl ⟨by rfl, ?_⟩) ?_ ?_
            rotate_left
            · intro w'
              go_simp
              with_reducible rfl
            rotate_left
            · simp only [Act.put, List.setIfInBounds_toArray, List.set_cons_zero, List.set_cons_succ, i64_w, i32_w]
              rfl
            refine done_ (done_of HT_.out (by kernel_rfl)) ?_
            try go_wp2
            go_ret
            exact ⟨by first | rfl | (simp [errW_none, errW_some] <;> rfl) | (simp [*, errW_none, errW_some] <;> rfl), by repeat (first | (with_reducible first | exact HB.out | apply below_alloc | apply pw_below_drewN | apply below_drew1 | refine below_set ?_ GE341.out) | exact HB.out)⟩
          · replace c26 := Bool.eq_false_iff.mpr c26
            subst c26
            have H1 : (some false) = some r := by rw [if_neg (show ¬ (false = true) by decide)] at H; exact H
            clear H
            have H := H1
            clear H1
            obtain rfl := Option.some.inj H
            try go_wp2
            have n0_ := Aside0.mk (blk_drew BK341.out)
            have n1_ := Aside0.mk (below_drew1 HB.out)
            clear BK341
            clear HB
            have BK341 := n0_
            have HB := n1_
            clear n0_ n1_
            refine start_ (n := 15) (S := fun w' => w'.cell? ⟨gb341, 0, none⟩ = some (.slice A0_0 l0_0.length c0_0) ∧ w'.cell? ⟨gb341, 1, none⟩ = some (.slice A0_1 l0_1.length c0_1)) (ds := []) #[false, false, false, false, false, false, false, false, false, false, false, false, false, false, false] (by kernel_rfl) rfl rfl ⟨(blk_cell BK341.out 0).trans rfl, (blk_cell BK341.out 1).trans rfl⟩ (fun hHeld => ?_); refine with_tabW intarsialaw26_OrderSorts.tab11 intarsialaw26_OrderSorts.bits11 (fun HT_ HW_ => ?_)
            generalize wr.drew = w35 at BK341 HB hHeld ⊢
            refine pure_ (i := 0) (N := some 51) (v := ?_) (a' := ?_) #[true, false, false, false, false, false, false, false, false, false, false, false, false, false, false] rfl rfl (any_of HT_.out (by kernel_rfl)) (fun _ _ _ h => h) (Or.inl ⟨by rfl, ?_⟩) ?_ ?_
            rotate_left
            · intro w'
              go_simp
              with_reducible rfl
            rotate_left
            · simp only [Act.put, List.setIfInBounds_toArray, List.set_cons_zero, List.set_cons_succ, i64_w, i32_w]
              rfl
            refine pure_ (i := 2) (N := some 53) (v := ?_) (a' := ?_) #[true, false, true, false, false, false, false, false, false, false, false, false, false, false, false] rfl rfl (any_of HT_.out (by kernel_rfl)) (fun _ _ _ h => h) (Or.inl ⟨by rfl, ?_⟩) ?_ ?_
            rotate_left
            · intro w'
              go_simp
              with_reducible rfl
            rotate_left
            · simp only [Act.put, List.setIfInBounds_toArray, List.set_cons_zero, List.set_cons_succ, i64_w, i32_w]
              rfl
            refine pure_ (i := 3) (N := some 54) (v := ?_) (a' := ?_) #[true, false, true, true, false, false, false, false, false, false, false, false, false, false, false] rfl rfl (any_of HT_.out (by kernel_rfl)) (fun _ _ _ h => h) (Or.inl ⟨by rfl, ?_⟩) ?_ ?_
            rotate_left
            · intro w'
              go_simp
              with_reducible rfl
            rotate_left
            · simp only [Act.put, List.setIfInBounds_toArray, List.set_cons_zero, List.set_cons_succ, i64_w, i32_w]
              rfl
            refine pure_ (i := 5) (N := some 56) (v := ?_) (a' := ?_) #[true, false, true, true, false, true, false, false, false, false, false, false, false, false, false] rfl rfl (any_of HT_.out (by kernel_rfl)) (fun _ _ _ h => h) (Or.inl ⟨by rfl, ?_⟩) ?_ ?_
            rotate_left
            · intro w'
              go_simp
              with_reducible rfl
            rotate_left
            · simp only [Act.put, List.setIfInBounds_toArray, List.set_cons_zero, List.set_cons_succ, i64_w, i32_w]
              rfl
            refine pure_ (i := 7) (N := some 58) (v := ?_) (a' := ?_) #[true, false, true, true, false, true, false, true, false, false, false, false, false, false, false] rfl rfl (any_of HT_.out (by kernel_rfl)) (fun _ _ _ h => h) (Or.inl ⟨by rfl, ?_⟩) ?_ ?_
            rotate_left
            · intro w'
              go_simp
              with_reducible rfl
            rotate_left
            · simp only [Act.put, List.setIfInBounds_toArray, List.set_cons_zero, List.set_cons_succ, i64_w, i32_w]
              rfl
            refine pure_ (i := 8) (N := some 59) (v := ?_) (a' := ?_) #[true, false, true, true, false, true, false, true, true, false, false, false, false, false, false] rfl rfl (any_of HT_.out (by kernel_rfl)) (fun _ _ _ h => h) (Or.inl ⟨by rfl, ?_⟩) ?_ ?_
            rotate_left
            · intro w'
              go_simp
              with_reducible rfl
            rotate_left
            · simp only [Act.put, List.setIfInBounds_toArray, List.set_cons_zero, List.set_cons_succ, i64_w, i32_w]
              rfl
            refine take_ (i := 1) (N := some 52) (v := ?_) (a' := ?_) #[true, true, true, true, false, true, false, true, true, false, false, false, false, false, false] rfl rfl (take_ofW HT_.out HW_.out (by kernel_rfl)) (fun _ _ _ h => h) (Or.inl ⟨by rfl, ?_⟩) hHeld ?_ ?_
            rotate_left
            · rintro w' ⟨s0, s1⟩
              go_simp
              with_reducible rfl
            rotate_left
            · simp only [Act.put, List.setIfInBounds_toArray, List.set_cons_zero, List.set_cons_succ, i64_w, i32_w]
              rfl
            refine take_ (i := 6) (N := some 57) (v := ?_) (a' := ?_) #[true, true, true, true, false, true, true, true, true, false, false, false, false, false, false] rfl rfl (take_ofW HT_.out HW_.out (by kernel_rfl)) (fun _ _ _ h => h) (Or.inl ⟨by rfl, ?_⟩) hHeld ?_ ?_
            rotate_left
            · rintro w' ⟨s0, s1⟩
              go_simp
              with_reducible rfl
            rotate_left
            · simp only [Act.put, List.setIfInBounds_toArray, List.set_cons_zero, List.set_cons_succ, i64_w, i32_w]
              rfl
            refine one_ (i := 4) (N := some 55) #[true, true, true, true, true, true, true, true, true, false, false, false, false, false, false] rfl rfl (one_of HT_.out (by kernel_rfl)) (by decide) (fun K hK => ?_)
            refine goes_ Try.func12 (by kernel_rfl) rfl #[.slice A0_1 l0_1.length c0_1, .int .u8 a1, .slice A2 l2.length c2] (by rfl) rfl rfl (by (try simp only [List.map_toArray, List.map_cons, List.map_nil]); first | done | rfl | (simp only [List.length_drop, List.length_take]; rfl)) ?_
            with_reducible refine (order_Sort.calls k1 _ _ l0_1 a1 (fun k_ => k_ < w.heap.size) _ _ l2 t350 _ ?side1 ?side2 ?side3 A23.out).mono ?_
            (case side1 => repeat (first | exact (Kd.C_below HR0_1.out HB.out) | (with_reducible refine Kd.C_alloc ?_ _) | (with_reducible refine Kd.C_drewN ?_ _) | (with_reducible refine Kd.C_drew ?_)))
            (case side2 => exact HC0_1.out)
            (case side3 => exact Kd.V_mk HC2.out (Kd.F_below (Kd.C_F k32_heap HR2.out) (by repeat (first | (with_reducible first | exact HB.out | apply below_alloc | apply pw_below_drewN | apply below_drew1 | refine below_set ?_ GE341.out) | exact HB.out))))
            rintro e w36 ⟨v351, rfl, ho0, hb⟩
            refine ⟨_, rfl, ?_⟩
            have n0_ := Aside0.mk (Kd.V_lower (Kd.V_mono (ok' := fun k_ => k_ ≠ gb341) ho0 (fun k_ hk_ => Or.elim hk_ (fun hs_ => fun e_ => Nat.not_le.2 hs_ (by rw [e_]; exact GW341.out)) (fun hn_ => (Kd.freshB (g := gb341) (o := .cells #[.slice A0_0 l0_0.length c0_0, .slice A0_1 l0_1.length c0_1] 25 (0, 0)) (by (with_reducible repeat (first | refine blk_drewN ?_ _ | refine blk_drew ?_ | refine blk_alloc ?_ _)); exact BK341.out) k_ hn_)))) (below_size (by repeat (first | (with_reducible first | exact HB.out | apply below_alloc | apply pw_below_drewN | apply below_drew1 | refine below_set ?_ GE341.out) | exact HB.out))))
            have n1_ := Aside0.mk (blk_below (g := gb341) (o := .cells #[.slice A0_0 l0_0.length c0_0, .slice A0_1 l0_1.length c0_1] 25 (0, 0)) (by (with_reducible repeat (first | refine blk_drewN ?_ _ | refine blk_drew ?_ | refine blk_alloc ?_ _)); exact BK341.out) hb)
            have n2_ := Aside0.mk (below_step (by repeat (first | (with_reducible first | exact HB.out | apply below_alloc | apply pw_below_drewN | apply below_drew1 | refine below_set ?_ GE341.out) | exact HB.out)) hb)
            clear BK341
            clear HB
            have HO352 := n0_
            have BK341 := n1_
            have HB := n2_
            clear n0_ n1_ n2_
            (try clear hb)
            (try clear hb2)
            (try clear hk)
            (try clear hi)
            (try clear ho0)
            refine hK.out _ _ ⟨(blk_cell BK341.out 0).trans rfl, (blk_cell BK341.out 1).trans rfl⟩ (fun hHeld => ?_)
            clear hK K
            refine norm_ (a' := ?_) ?_ ?_
            rotate_left
            · show Act.put _ (some 55) _ = _
              simp only [Act.put, List.setIfInBounds_toArray, List.set_cons_zero, List.set_cons_succ, i64_w, i32_w]
              rfl
            refine one_ (i := 9) (N := some 60) #[true, true, true, true, true, true, true, true, true, true, false, false, false, false, false] rfl rfl (one_of HT_.out (by kernel_rfl)) (by decide) (fun K hK => ?_)
            refine goes_ Try.func13 (by kernel_rfl) rfl #[.slice A0_1 l0_1.length c0_1, .int .u8 a1, .slice A2 l2.length c2] (by rfl) rfl rfl (by (try simp only [List.map_toArray, List.map_cons, List.map_nil]); first | done | rfl | (simp only [List.length_drop, List.length_take]; rfl)) ?_
            with_reducible refine (intarsiaref26_Sort.calls k1 _ _ l0_1 a1 (fun k_ => k_ < w.heap.size) _ _ l2 t353 _ ?side1 ?side2 ?side3 A24.out).mono ?_
            (case side1 => repeat (first | exact (Kd.C_below HR0_1.out HB.out) | (with_reducible refine Kd.C_alloc ?_ _) | (with_reducible refine Kd.C_drewN ?_ _) | (with_reducible refine Kd.C_drew ?_)))
            (case side2 => exact HC0_1.out)
            (case side3 => exact Kd.V_mk HC2.out (Kd.F_below (Kd.C_F k32_heap HR2.out) (by repeat (first | (with_reducible first | exact HB.out | apply below_alloc | apply pw_below_drewN | apply below_drew1 | refine below_set ?_ GE341.out) | exact HB.out))))
            rintro e w37 ⟨v354, rfl, ho0, hb⟩
            refine ⟨_, rfl, ?_⟩
            have n0_ := Aside0.mk (Kd.V_below (by (with_reducible repeat (first | apply Kd.V_alloc | apply Kd.V_drewN | apply Kd.V_drew)); exact HO352.out) hb)
            have n1_ := Aside0.mk (Kd.V_lower (Kd.V_mono (ok' := fun k_ => k_ ≠ gb341) ho0 (fun k_ hk_ => Or.elim hk_ (fun hs_ => fun e_ => Nat.not_le.2 hs_ (by rw [e_]; exact GW341.out)) (fun hn_ => (Kd.freshB (g := gb341) (o := .cells #[.slice A0_0 l0_0.length c0_0, .slice A0_1 l0_1.length c0_1] 25 (0, 0)) (by (with_reducible repeat (first | refine blk_drewN ?_ _ | refine blk_drew ?_ | refine blk_alloc ?_ _)); exact BK341.out) k_ hn_)))) (below_size (by repeat (first | (with_reducible first | exact HB.out | apply below_alloc | apply pw_below_drewN | apply below_drew1 | refine below_set ?_ GE341.out) | exact HB.out))))
            have n2_ := Aside0.mk (blk_below (g := gb341) (o := .cells #[.slice A0_0 l0_0.length c0_0, .slice A0_1 l0_1.length c0_1] 25 (0, 0)) (by (with_reducible repeat (first | refine blk_drewN ?_ _ | refine blk_drew ?_ | refine blk_alloc ?_ _)); exact BK341.out) hb)
            have n3_ := Aside0.mk (below_step (by repeat (first | (with_reducible first | exact HB.out | apply below_alloc | apply pw_below_drewN | apply below_drew1 | refine below_set ?_ GE341.out) | exact HB.out)) hb)
            clear HO352
            clear BK341
            clear HB
            have HO352 := n0_
            have HO355 := n1_
            have BK341 := n2_
            have HB := n3_
            clear n0_ n1_ n2_ n3_
            (try clear hb)
            (try clear hb2)
            (try clear hk)
            (try clear hi)
            (try clear ho0)
            obtain ⟨Ao38, co38, eo38⟩ := Kd.V_slice HO352.out
            (first | subst eo38 | (injection eo38 with f1_ f2_ f3_; have f4_ := f1_.symm; have f5_ := f3_.symm; clear f1_ f2_ f3_; subst f4_; subst f5_))
            obtain ⟨Ao39, co39, eo39⟩ := Kd.V_slice HO355.out
            (first | subst eo39 | (injection eo39 with f1_ f2_ f3_; have f4_ := f1_.symm; have f5_ := f3_.symm; clear f1_ f2_ f3_; subst f4_; subst f5_))
            refine hK.out _ _ ⟨(blk_cell BK341.out 0).trans rfl, (blk_cell BK341.out 1).trans rfl⟩ (fun hHeld => ?_)
            clear hK K
            refine norm_ (a' := ?_) ?_ ?_
            rotate_left
            · show Act.put _ (some 60) _ = _
              simp only [Act.put, List.setIfInBounds_toArray, List.set_cons_zero, List.set_cons_succ, i64_w, i32_w]
              rfl
            refine one_ (i := 10) (N := some 61) #[true, true, true, true, true, true, true, true, true, true, true, false, false, false, false] rfl rfl (one_of HT_.out (by kernel_rfl)) (by decide) (fun K hK => ?_)
            refine goes_ Try.func11 (by kernel_rfl) rfl #[.slice Ao38 t350.length co38, .slice Ao39 t353.length co39] (by rfl) rfl rfl (by (try simp only [List.map_toArray, List.map_cons, List.map_nil]); first | done | rfl | (simp only [List.length_drop, List.length_take]; rfl)) ?_
            with_reducible refine (intarsialaw26_sameInsts.calls k1 _ _ t350 _ _ t353 false _ ?side1 ?side2 ?side3 ?side4 A25.out).mono ?_
            (case side1 => repeat (first | exact (Kd.V_reads' HO352.out).2.2 | (with_reducible refine Kd.C_alloc ?_ _) | (with_reducible refine Kd.C_drewN ?_ _) | (with_reducible refine Kd.C_drew ?_)))
            (case side2 => exact (Kd.V_reads' HO352.out).2.1)
            (case side3 => repeat (first | exact (Kd.V_reads' HO355.out).2.2 | (with_reducible refine Kd.C_alloc ?_ _) | (with_reducible refine Kd.C_drewN ?_ _) | (with_reducible refine Kd.C_drew ?_)))
            (case side4 => exact (Kd.V_reads' HO355.out).2.1)
            rintro e w40 ⟨rfl, hb⟩
            refine ⟨_, rfl, ?_⟩
            have n0_ := Aside0.mk (Kd.V_below (by (with_reducible repeat (first | apply Kd.V_alloc | apply Kd.V_drewN | apply Kd.V_drew)); exact HO352.out) hb)
            have n1_ := Aside0.mk (Kd.V_below (by (with_reducible repeat (first | apply Kd.V_alloc | apply Kd.V_drewN | apply Kd.V_drew)); exact HO355.out) hb)
            have n2_ := Aside0.mk (blk_below (g := gb341) (o := .cells #[.slice A0_0 l0_0.length c0_0, .slice A0_1 l0_1.length c0_1] 25 (0, 0)) (by (with_reducible repeat (first | refine blk_drewN ?_ _ | refine blk_drew ?_ | refine blk_alloc ?_ _)); exact BK341.out) hb)
            have n3_ := Aside0.mk (below_step (by repeat (first | (with_reducible first | exact HB.out | apply below_alloc | apply pw_below_drewN | apply below_drew1 | refine below_set ?_ GE341.out) | exact HB.out)) hb)
            clear HO352
            clear HO355
            clear BK341
            clear HB
            have HO352 := n0_
            have HO355 := n1_
            have BK341 := n2_
            have HB := n3_
            clear n0_ n1_ n2_ n3_
            (try clear hb)
            (try clear hb2)
            (try clear hk)
            (try clear hi)
            refine hK.out _ _ ⟨(blk_cell BK341.out 0).trans rfl, (blk_cell BK341.out 1).trans rfl⟩ (fun hHeld => ?_)
            clear hK K
            refine norm_ (a' := ?_) ?_ ?_
            rotate_left
            · show Act.put _ (some 61) _ = _
              simp only [Act.put, List.setIfInBounds_toArray, List.set_cons_zero, List.set_cons_succ, i64_w, i32_w]
              rfl
            refine pure_ (i := 11) (N := some 62) (v := ?_) (a' := ?_) #[true, true, true, true, true, true, true, true, true, true, true, true, false, false, false] rfl rfl (any_of HT_.out (by kernel_rfl)) (fun _ _ _ h => h) (Or.inl ⟨by rfl, ?_⟩) ?_ ?_
            rotate_left
            · intro w'
              go_simp
              with_reducible rfl
            rotate_left
            · simp only [Act.put, List.setIfInBounds_toArray, List.set_cons_zero, List.set_cons_succ, i64_w, i32_w]
              rfl
            refine pure_ (i := 12) (N := some 63) (v := undef) (a' := ?_) #[true, true, true, true, true, true, true, true, true, true, true, true, true, false, false] rfl rfl (any_of HT_.out (by kernel_rfl)) (fun _ _ _ h => h) (Or.inr ⟨by rfl, rfl⟩) ?_ ?_
            rotate_left
            · simp only [Act.put, List.setIfInBounds_toArray, List.set_cons_zero, List.set_cons_succ, i64_w, i32_w]
              rfl
            refine pure_ (i := 13) (N := some 64) (v := ?_) (a' := ?_) #[true, true, true, true, true, true, true, true, true, true, true, true, true, true, false] rfl rfl (any_of HT_.out (by kernel_rfl)) (fun _ _ _ h => h) (Or.inl ⟨by rfl, ?_⟩) ?_ ?_
            rotate_left
            · intro w'
              go_simp
              with_reducible rfl
            rotate_left
            · simp only [Act.put, List.setIfInBounds_toArray, List.set_cons_zero, List.set_cons_succ, i64_w, i32_w]
              rfl
            refine pure_ (i := 14) (N := some 6) (v := ?_) (a' := ?_) #[true, true, true, true, true, true, true, true, true, true, true, true, true, true, true] rfl rfl (any_of HT_.out (by kernel_rfl)) (fun _ _ _ h => h) (Or.inl ⟨by rfl, ?_⟩) ?_ ?_
            rotate_left
            · intro w'
              go_simp
              with_reducible rfl
            rotate_left
            · simp only [Act.put, List.setIfInBounds_toArray, List.set_cons_zero, List.set_cons_succ, i64_w, i32_w]
              rfl
            refine done_ (done_of HT_.out (by kernel_rfl)) ?_
            try go_wp2
            go_ret
            exact ⟨by first | rfl | (simp [errW_none, errW_some] <;> rfl) | (simp [*, errW_none, errW_some] <;> rfl), by repeat (first | (with_reducible first | exact HB.out | apply below_alloc | apply pw_below_drewN | apply below_drew1 | refine below_set ?_ GE341.out) | exact HB.out)⟩
  · replace c5 := Bool.eq_false_iff.mpr c5
    subst c5
    have H1 : ((intarsialaw26_awake.f).bind fun t343 => (some t343)) = some r := by rw [if_neg (show ¬ (false = true) by decide)] at H; exact H
    clear H
    have H := H1
    clear H1
    replace H := Option.bind_eq_some_iff.mp H
    obtain ⟨t343, A410, H⟩ := H
    replace H : (some t343) = some r := H
    have A41 := Aside0.mk A410
    clear A410
    obtain rfl := Option.some.inj H
    go_enter Try.func3, Try.ntmps3
    go_wp2_with (first | ((with_reducible refine gate_dst (N := 3) rfl ?_); refine box_event ?hg (N := 3) ?hd (cs := #[.slice A0_0 l0_0.length c0_0, .slice A0_1 l0_1.length c0_1]) (t := 25) ?hr ?_; (case hd => rfl); (case hg => rfl); (case hr => first | (go_simp; done) | (go_simp; rfl)); intro gb341 hg w42 hbox hb; have n0_ := Aside0.mk (below_step (by repeat (first | (with_reducible first | exact HB.out | apply below_alloc | apply pw_below_drewN | apply below_drew1) | exact HB.out)) hb); have n1_ := Aside0.mk (hbox); have n2_ := Aside0.mk ((by rw [hg]; exact (below_size (by repeat (first | (with_reducible first | exact HB.out | apply below_alloc | apply pw_below_drewN | apply below_drew1) | exact HB.out))) : w.heap.size ≤ gb341)); have n3_ := Aside0.mk ((by rw [hg]; exact (below_size (by repeat (first | (with_reducible first | exact HB.out | apply below_alloc | apply pw_below_drewN | apply below_drew1) | exact HB.out))) : w.heap.size ≤ gb341)); clear HB; have HB := n0_; have BK341 := n1_; have GW341 := n2_; have GE341 := n3_; clear n0_ n1_ n2_ n3_; clear hb hbox hg; have hcz43_0 : w42.cell? ⟨gb341, 0, none⟩ = some (.slice A0_0 l0_0.length c0_0) := (blk_cell BK341.out 0).trans rfl; have hcz43_1 : w42.cell? ⟨gb341, 1, none⟩ = some (.slice A0_1 l0_1.length c0_1) := (blk_cell BK341.out 1).trans rfl; have hfz43_0 := blk_frozen BK341.out 0; have hfz43_1 := blk_frozen BK341.out 1) | ((with_reducible refine gate_callee (f := 7) rfl ?_); refine goesL_ (some 11) rfl rfl Try.func7 (by kernel_rfl) rfl #[.agg #[.slice A0_0 l0_0.length c0_0, .slice A0_1 l0_1.length c0_1], .slice A2 l2.length c2] rfl (by (try simp only [List.map_toArray, List.map_cons, List.map_nil]); first | done | rfl | (simp only [List.length_drop, List.length_take]; rfl)) ?_; (with_reducible refine (intarsialaw26_light.calls k _ _ l0_0 _ _ l0_1 _ _ l2 false _ ?side1 ?side2 ?side3 ?side4 ?side5 ?side6 A4.out).mono ?_); (case side1 => repeat (first | exact (Kd.C_below HR0_0.out HB.out) | (with_reducible refine Kd.C_alloc ?_ _) | (with_reducible refine Kd.C_drewN ?_ _) | (with_reducible refine Kd.C_drew ?_))); (case side2 => exact HC0_0.out); (case side3 => repeat (first | exact (Kd.C_below HR0_1.out HB.out) | (with_reducible refine Kd.C_alloc ?_ _) | (with_reducible refine Kd.C_drewN ?_ _) | (with_reducible refine Kd.C_drew ?_))); (case side4 => exact HC0_1.out); (case side5 => repeat (first | exact (Kd.C_below HR2.out HB.out) | (with_reducible refine Kd.C_alloc ?_ _) | (with_reducible refine Kd.C_drewN ?_ _) | (with_reducible refine Kd.C_drew ?_))); (case side6 => exact HC2.out); rintro e w44 ⟨rfl, hb⟩; refine ⟨_, rfl, ?_⟩; have n0_ := Aside0.mk (blk_below (g := gb341) (o := .cells #[.slice A0_0 l0_0.length c0_0, .slice A0_1 l0_1.length c0_1] 25 (0, 0)) (by (with_reducible repeat (first | refine blk_drewN ?_ _ | refine blk_drew ?_ | refine blk_alloc ?_ _)); exact BK341.out) hb); have n1_ := Aside0.mk (below_step (by repeat (first | (with_reducible first | exact HB.out | apply below_alloc | apply pw_below_drewN | apply below_drew1 | refine below_set ?_ GE341.out) | exact HB.out)) hb); clear BK341; clear HB; have BK341 := n0_; have HB := n1_; clear n0_ n1_; (try clear hb); (try clear hb2); (try clear hk); (try clear hi)) | ((with_reducible refine gate_callee (f := 8) rfl ?_); refine goesL_ (some 13) rfl rfl Try.func8 (by kernel_rfl) rfl #[] rfl (by (try simp only [List.map_toArray, List.map_cons, List.map_nil]); first | done | rfl | (simp only [List.length_drop, List.length_take]; rfl)) ?_; (with_reducible refine (intarsialaw26_awake.calls  t343 _ A41.out).mono ?_); rintro e w45 ⟨rfl, hb⟩; refine ⟨_, rfl, ?_⟩; have n0_ := Aside0.mk (blk_below (g := gb341) (o := .cells #[.slice A0_0 l0_0.length c0_0, .slice A0_1 l0_1.length c0_1] 25 (0, 0)) (by (with_reducible repeat (first | refine blk_drewN ?_ _ | refine blk_drew ?_ | refine blk_alloc ?_ _)); exact BK341.out) hb); have n1_ := Aside0.mk (below_step (by repeat (first | (with_reducible first | exact HB.out | apply below_alloc | apply pw_below_drewN | apply below_drew1 | refine below_set ?_ GE341.out) | exact HB.out)) hb); clear BK341; clear HB; have BK341 := n0_; have HB := n1_; clear n0_ n1_; (try clear hb); (try clear hb2); (try clear hk); (try clear hi)))
    go_ret
    exact ⟨by first | rfl | (simp [errW_none, errW_some] <;> rfl) | (simp [*, errW_none, errW_some] <;> rfl), by repeat (first | (with_reducible first | exact HB.out | apply below_alloc | apply pw_below_drewN | apply below_drew1 | refine below_set ?_ GE341.out) | exact HB.out)⟩

end Go.Proofs.Ytjkdfjkaeoklmaa.Q
namespace Go.Proofs.Ytjkdfjkaeoklmaa.Q
open Go.RowKit Go.Proofs.YtjkdfjkaeoklmaaW.PrintWords
set_option linter.unusedVariables false
/-- With rounds enough there is an answer, and it is as asked. -/
def TotQ {β : Type} (Q : β → Prop) (g : Nat → Option β) : Prop := ∃ b, Ev g b ∧ Q b
section
variable {α β : Type} {Q : β → Prop}
theorem TotQ.some {b : β} (h : Q b) : TotQ Q (fun _ => some b) := ⟨b, Ev.now b, h⟩
theorem TotQ.ite {c : Prop} [Decidable c] {f g : Nat → Option β} (hf : c → TotQ Q f) (hg : ¬c → TotQ Q g) : TotQ Q (fun k => if c then f k else g k) := by
  by_cases h : c
  · obtain ⟨b, e, q⟩ := hf h
    exact ⟨b, e.congr (fun k => if_pos h), q⟩
  · obtain ⟨b, e, q⟩ := hg h
    exact ⟨b, e.congr (fun k => if_neg h), q⟩
theorem TotQ.step {g f : Nat → Option β} (h : ∀ k, g (k + 1) = f k) (hf : TotQ Q f) : TotQ Q g := by
  obtain ⟨b, e, q⟩ := hf
  exact ⟨b, Ev.step h e, q⟩
theorem TotQ.congr {g f : Nat → Option β} (h : ∀ k, g k = f k) (hf : TotQ Q f) : TotQ Q g := by
  obtain ⟨b, e, q⟩ := hf
  exact ⟨b, Ev.congr h e, q⟩
theorem TotQ.bind {R : α → Prop} {g : Nat → Option α} {f : Nat → α → Option β} (h : TotQ R g) (k : ∀ a, R a → TotQ Q (fun n => f n a)) : TotQ Q (fun n => (g n).bind (f n)) := by
  obtain ⟨a, e, r⟩ := h
  obtain ⟨b, e2, q⟩ := k a r
  exact ⟨b, Ev.bind e e2, q⟩
theorem TotQ.bindE {a : α} {g : Nat → Option α} {f : Nat → α → Option β} (h : Ev g a) (k : TotQ Q (fun n => f n a)) : TotQ Q (fun n => (g n).bind (f n)) := by
  obtain ⟨b, e2, q⟩ := k
  exact ⟨b, Ev.bind h e2, q⟩
theorem TotQ.imp {Q' : β → Prop} {g : Nat → Option β} (h : TotQ Q g) (hq : ∀ b, Q b → Q' b) : TotQ Q' g := by
  obtain ⟨b, e, q⟩ := h
  exact ⟨b, e, hq b q⟩
theorem TotQ.rounds {g : Nat → Option Bool} (h : TotQ (fun b => b = true) g) : ∃ k, g k = Option.some true := by
  obtain ⟨b, e, rfl⟩ := h
  exact e.rounds
/-- A loop that counts up. -/
theorem TotQ.loop {g : Nat → Int → Option β} (len : Nat) (stop : TotQ Q (fun k => g k (len : Int))) (round : ∀ i : Nat, i < len → TotQ Q (fun k => g k ((i + 1 : Nat) : Int)) → TotQ Q (fun k => g k (i : Int))) :
    ∀ i : Nat, i ≤ len → TotQ Q (fun k => g k (i : Int)) := by
  intro i hi
  obtain ⟨n, hn⟩ : ∃ n, n = len - i := ⟨_, rfl⟩
  induction n generalizing i with
  | zero =>
    obtain rfl : i = len := by omega
    exact stop
  | succ n ih => exact round i (by omega) (ih (i + 1) (by omega) (by omega))
end
theorem wrap_next {i n : Nat} (h : i < n) (hn : n ≤ 9223372036854775807) : wrap64 ((i : Int) + 1) = ((i + 1 : Nat) : Int) := by
  rw [Int.natCast_add]
  unfold wrap64
  omega
end Go.Proofs.Ytjkdfjkaeoklmaa.Q
namespace Go.Proofs.Ytjkdfjkaeoklmaa.Q
open Go.RowKit Go.Proofs.YtjkdfjkaeoklmaaW.PrintWords
set_option linter.unusedVariables false
/-- It ends. -/
abbrev Tot {β : Type} (g : Nat → Option β) : Prop := TotQ (fun _ => True) g
theorem lightItems_tot (l : List S114) : Tot (fun k => intarsiaref15_lightItems.f k l) := by
  unfold intarsiaref15_lightItems.f
  refine TotQ.ite (fun _ => TotQ.some trivial) (fun h0 => ?_)
  refine TotQ.loop (g := fun k x => intarsiaref15_lightItems.l0 k l x) l.length (TotQ.step (fun k => by simp only [intarsiaref15_lightItems.l0]; rw [if_neg (by omega)]; try rfl) (TotQ.some trivial)) (fun i hi ih => ?_) 0 (Nat.zero_le _)
  refine TotQ.step (fun k => by simp only [intarsiaref15_lightItems.l0]; rfl) ?_
  repeat' first
      | exact TotQ.some trivial
      | (with_reducible refine TotQ.ite (fun _ => ?_) (fun _ => ?_))
      | (rw [wrap_next hi (by omega)]; exact ih)
      | (exfalso; omega)
      | assumption
theorem lightTests_tot (a : ByteArray) (l : List S110) (m : List S112) (hl : l.length ≤ 9223372036854775807) (hm : m.length ≤ 9223372036854775807) : Tot (fun k => intarsiaref15_lightTests.f k a l m) := by
  unfold intarsiaref15_lightTests.f
  have h1 : ∀ i : Nat, i ≤ m.length → Tot (fun k => intarsiaref15_lightTests.l1 k (i : Int) a l m) := by
    refine TotQ.loop (g := fun k x => intarsiaref15_lightTests.l1 k x a l m) m.length (TotQ.step (fun k => by simp only [intarsiaref15_lightTests.l1]; rw [if_neg (by omega)]; try rfl) (TotQ.some trivial)) (fun i hi ih => ?_)
    refine TotQ.step (fun k => by simp only [intarsiaref15_lightTests.l1]; rfl) ?_
    repeat' first
      | exact TotQ.some trivial
      | (with_reducible refine TotQ.ite (fun _ => ?_) (fun _ => ?_))
      | (rw [wrap_next hi (by omega)]; exact ih)
      | (exfalso; omega)
      | assumption
  refine TotQ.loop (g := fun k x => intarsiaref15_lightTests.l0 k x a l m) l.length (TotQ.step (fun k => by simp only [intarsiaref15_lightTests.l0]; rw [if_neg (by omega)]; try rfl) (h1 0 (Nat.zero_le _))) (fun i hi ih => ?_) 0 (Nat.zero_le _)
  refine TotQ.step (fun k => by simp only [intarsiaref15_lightTests.l0]; rfl) ?_
  repeat' first
      | exact TotQ.some trivial
      | (with_reducible refine TotQ.ite (fun _ => ?_) (fun _ => ?_))
      | (rw [wrap_next hi (by omega)]; exact ih)
      | (exfalso; omega)
      | assumption
theorem lightRule_tot (a : ByteArray) (l : List S65) (m : List S89) : Tot (fun k => intarsiaref15_lightRule.f k a l m) := by
  have h2 : m.length ≤ 12 → ∀ i : Nat, i ≤ m.length → Tot (fun k => intarsiaref15_lightRule.l2 k (i : Int) a l m) := by
    intro hm
    refine TotQ.loop (g := fun k x => intarsiaref15_lightRule.l2 k x a l m) m.length (TotQ.step (fun k => by simp only [intarsiaref15_lightRule.l2]; rw [if_neg (by omega)]; try rfl) (TotQ.some trivial)) (fun i hi ih => ?_)
    have h4 : ∀ (y0 : Int) (y1 : ByteArray) (y2 : Int) (y3 : ByteArray) (y4 : List S92) (y5 : List (List S114)), y5.length ≤ 12 → ∀ j : Nat, j ≤ y5.length → Tot (fun k => intarsiaref15_lightRule.l4 k (i : Int) (j : Int) a l m y0 y1 y2 y3 y4 y5) := by
      intro y0 y1 y2 y3 y4 y5 h5
      refine TotQ.loop (g := fun k x => intarsiaref15_lightRule.l4 k (i : Int) x a l m y0 y1 y2 y3 y4 y5) y5.length (TotQ.step (fun k => by simp only [intarsiaref15_lightRule.l4]; rw [if_neg (by omega), wrap_next hi (by omega)]; try rfl) ih) (fun i hi ih => ?_)
      refine TotQ.step (fun k => by simp only [intarsiaref15_lightRule.l4]; rfl) ?_
      repeat' first
        | exact TotQ.some trivial
        | (with_reducible refine TotQ.ite (fun _ => ?_) (fun _ => ?_))
        | (with_reducible refine TotQ.bind (lightItems_tot _) (fun _ _ => ?_))
        | (rw [wrap_next hi (by omega)]; exact ih)
        | (exfalso; omega)
        | assumption
    have h3 : ∀ (y0 : Int) (y1 : ByteArray) (y2 : Int) (y3 : ByteArray) (y4 : List S92) (y5 : List (List S114)), y4.length ≤ 10 → y5.length ≤ 12 → ∀ j : Nat, j ≤ y4.length → Tot (fun k => intarsiaref15_lightRule.l3 k (i : Int) (j : Int) a l m y0 y1 y2 y3 y4 y5) := by
      intro y0 y1 y2 y3 y4 y5 h4' h5
      refine TotQ.loop (g := fun k x => intarsiaref15_lightRule.l3 k (i : Int) x a l m y0 y1 y2 y3 y4 y5) y4.length (TotQ.step (fun k => by simp only [intarsiaref15_lightRule.l3]; rw [if_neg (by omega)]; try rfl) (h4 y0 y1 y2 y3 y4 y5 h5 0 (Nat.zero_le _))) (fun i hi ih => ?_)
      refine TotQ.step (fun k => by simp only [intarsiaref15_lightRule.l3]; rfl) ?_
      repeat' first
        | exact TotQ.some trivial
        | (with_reducible refine TotQ.ite (fun _ => ?_) (fun _ => ?_))
        | (with_reducible refine TotQ.bind (lightItems_tot _) (fun _ _ => ?_))
        | (rw [wrap_next hi (by omega)]; exact ih)
        | (exfalso; omega)
        | assumption
    have h6 : ∀ (b : Bool) (y0 : Int) (y1 : ByteArray) (y2 : Int) (y3 : ByteArray) (y4 : List S92) (y5 : List (List S114)), (b = false → y4.length ≤ 10 ∧ y5.length ≤ 12) → Tot (fun k => intarsiaref15_lightRule.j5 k (i : Int) b a l m y0 y1 y2 y3 y4 y5) := by
      intro b y0 y1 y2 y3 y4 y5 hb
      refine TotQ.step (fun k => by simp only [intarsiaref15_lightRule.j5]; rfl) ?_
      refine TotQ.ite (fun _ => TotQ.some trivial) (fun h => ?_)
      obtain ⟨h7, h8⟩ := hb (by simpa using h)
      exact h3 _ _ _ _ _ _ h7 h8 0 (Nat.zero_le _)
    refine TotQ.step (fun k => by simp only [intarsiaref15_lightRule.l2]; rfl) ?_
    refine TotQ.ite (fun _ => ?_) (fun _ => TotQ.some trivial)
    refine TotQ.ite (fun _ => ?_) (fun _ => by exfalso; omega)
    refine TotQ.ite (fun _ => h6 _ _ _ _ _ _ _ (by simp)) (fun g1 => ?_)
    refine TotQ.ite (fun _ => h6 _ _ _ _ _ _ _ (by simp)) (fun g2 => ?_)
    refine TotQ.ite (fun _ => h6 _ _ _ _ _ _ _ (by simp)) (fun g3 => ?_)
    exact h6 _ _ _ _ _ _ _ (fun _ => ⟨by omega, by omega⟩)
  have h0 : l.length ≤ 8 → m.length ≤ 12 → ∀ i : Nat, i ≤ l.length → Tot (fun k => intarsiaref15_lightRule.l0 k (i : Int) a l m) := by
    intro hl hm
    refine TotQ.loop (g := fun k x => intarsiaref15_lightRule.l0 k x a l m) l.length (TotQ.step (fun k => by simp only [intarsiaref15_lightRule.l0]; rw [if_neg (by omega)]; try rfl) (h2 hm 0 (Nat.zero_le _))) (fun i hi ih => ?_)
    have h1 : ∀ (y : List S84), y.length ≤ 10 → ∀ j : Nat, j ≤ y.length → Tot (fun k => intarsiaref15_lightRule.l1 k (i : Int) y (j : Int) a l m) := by
      intro y hy
      refine TotQ.loop (g := fun k x => intarsiaref15_lightRule.l1 k (i : Int) y x a l m) y.length (TotQ.step (fun k => by simp only [intarsiaref15_lightRule.l1]; rw [if_neg (by omega), wrap_next hi (by omega)]; try rfl) ih) (fun i hi ih => ?_)
      refine TotQ.step (fun k => by simp only [intarsiaref15_lightRule.l1]; rfl) ?_
      repeat' first
        | exact TotQ.some trivial
        | (with_reducible refine TotQ.ite (fun _ => ?_) (fun _ => ?_))
        | (with_reducible refine TotQ.bind (lightTests_tot _ _ _ (by omega) (by omega)) (fun _ _ => ?_))
        | (rw [wrap_next hi (by omega)]; exact ih)
        | (exfalso; omega)
        | assumption
    have h6 : ∀ (b : Bool) (y : List S84), (b = false → y.length ≤ 10) → Tot (fun k => intarsiaref15_lightRule.j2 k (i : Int) y b a l m) := by
      intro b y hb
      refine TotQ.step (fun k => by simp only [intarsiaref15_lightRule.j2]; rfl) ?_
      exact TotQ.ite (fun _ => TotQ.some trivial) (fun h => h1 _ (hb (by simpa using h)) 0 (Nat.zero_le _))
    refine TotQ.step (fun k => by simp only [intarsiaref15_lightRule.l0]; rfl) ?_
    refine TotQ.ite (fun _ => ?_) (fun _ => h2 hm 0 (Nat.zero_le _))
    refine TotQ.ite (fun _ => ?_) (fun _ => by exfalso; omega)
    refine TotQ.ite (fun _ => h6 _ _ (by simp)) (fun g1 => ?_)
    exact h6 _ _ (fun _ => by omega)
  have hj : ∀ b : Bool, (b = false → l.length ≤ 8 ∧ m.length ≤ 12) → Tot (fun k => intarsiaref15_lightRule.j0 k b a l m) := by
    intro b hb
    refine TotQ.step (fun k => by simp only [intarsiaref15_lightRule.j0]; rfl) ?_
    refine TotQ.ite (fun _ => TotQ.some trivial) (fun h => ?_)
    obtain ⟨h7, h8⟩ := hb (by simpa using h)
    exact h0 h7 h8 0 (Nat.zero_le _)
  unfold intarsiaref15_lightRule.f
  refine TotQ.ite (fun _ => hj _ (by simp)) (fun g1 => ?_)
  refine TotQ.ite (fun _ => hj _ (by simp)) (fun g2 => ?_)
  exact hj _ (fun _ => ⟨by omega, by omega⟩)
theorem light_tot (l : List S70) (m : List S45) : Tot (fun k => intarsiaref15_Light.f k l m) := by
  have h2 : m.length ≤ 6 → ∀ i : Nat, i ≤ m.length → Tot (fun k => intarsiaref15_Light.l2 k (i : Int) l m) := by
    intro hm
    refine TotQ.loop (g := fun k x => intarsiaref15_Light.l2 k x l m) m.length (TotQ.step (fun k => by simp only [intarsiaref15_Light.l2]; rw [if_neg (by omega)]; try rfl) (TotQ.some trivial)) (fun i hi ih => ?_)
    refine TotQ.step (fun k => by simp only [intarsiaref15_Light.l2]; rfl) ?_
    repeat' first
      | exact TotQ.some trivial
      | (with_reducible refine TotQ.ite (fun _ => ?_) (fun _ => ?_))
      | (with_reducible refine TotQ.bind (lightRule_tot _ _ _) (fun _ _ => ?_))
      | (rw [wrap_next hi (by omega)]; exact ih)
      | (exfalso; omega)
      | assumption
  have h0 : l.length ≤ 20 → m.length ≤ 6 → ∀ i : Nat, i ≤ l.length → Tot (fun k => intarsiaref15_Light.l0 k (i : Int) l m) := by
    intro hl hm
    refine TotQ.loop (g := fun k x => intarsiaref15_Light.l0 k x l m) l.length (TotQ.step (fun k => by simp only [intarsiaref15_Light.l0]; rw [if_neg (by omega)]; try rfl) (h2 hm 0 (Nat.zero_le _))) (fun i hi ih => ?_)
    have h1 : ∀ (z : ByteArray) (y : List ByteArray), y.length ≤ 10 → ∀ j : Nat, j ≤ y.length → Tot (fun k => intarsiaref15_Light.l1 k (i : Int) (j : Int) l m z y) := by
      intro z y hy
      refine TotQ.loop (g := fun k x => intarsiaref15_Light.l1 k (i : Int) x l m z y) y.length (TotQ.step (fun k => by simp only [intarsiaref15_Light.l1]; rw [if_neg (by omega), wrap_next hi (by omega)]; try rfl) ih) (fun i hi ih => ?_)
      refine TotQ.step (fun k => by simp only [intarsiaref15_Light.l1]; rfl) ?_
      repeat' first
        | exact TotQ.some trivial
        | (with_reducible refine TotQ.ite (fun _ => ?_) (fun _ => ?_))
        | (rw [wrap_next hi (by omega)]; exact ih)
        | (exfalso; omega)
        | assumption
    have h6 : ∀ (b : Bool) (z : ByteArray) (y : List ByteArray), (b = false → y.length ≤ 10) → Tot (fun k => intarsiaref15_Light.j2 k (i : Int) b l m z y) := by
      intro b z y hb
      refine TotQ.step (fun k => by simp only [intarsiaref15_Light.j2]; rfl) ?_
      exact TotQ.ite (fun _ => TotQ.some trivial) (fun h => h1 _ _ (hb (by simpa using h)) 0 (Nat.zero_le _))
    refine TotQ.step (fun k => by simp only [intarsiaref15_Light.l0]; rfl) ?_
    refine TotQ.ite (fun _ => ?_) (fun _ => h2 hm 0 (Nat.zero_le _))
    refine TotQ.ite (fun _ => ?_) (fun _ => by exfalso; omega)
    refine TotQ.ite (fun _ => h6 _ _ _ (by simp)) (fun g1 => ?_)
    exact h6 _ _ _ (fun h => by have := of_decide_eq_false h; omega)
  have hj : ∀ b : Bool, (b = false → l.length ≤ 20 ∧ m.length ≤ 6) → Tot (fun k => intarsiaref15_Light.j0 k b l m) := by
    intro b hb
    refine TotQ.step (fun k => by simp only [intarsiaref15_Light.j0]; rfl) ?_
    refine TotQ.ite (fun _ => TotQ.some trivial) (fun h => ?_)
    obtain ⟨h7, h8⟩ := hb (by simpa using h)
    exact h0 h7 h8 0 (Nat.zero_le _)
  unfold intarsiaref15_Light.f
  refine TotQ.ite (fun _ => hj _ (by simp)) (fun g1 => ?_)
  exact hj _ (fun h => ⟨by omega, by have := of_decide_eq_false h; omega⟩)
end Go.Proofs.Ytjkdfjkaeoklmaa.Q
