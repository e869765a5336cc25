import Derived.Test.YtjkdfjkaeoklmaaV6
import Derived.Test.YtjkdfjkaeoklmaaV4
import Derived.WalkSpells
import Derived.Test.YtjkdfjkaeoklmaaV5
import Derived.Test.YtjkdfjkaeoklmaaV2
set_option linter.unusedVariables false
set_option linter.unusedSimpArgs false
namespace Go.Proofs.Ytjkdfjkaeoklmaa.Q
open Go.RowKit Go.Proofs.YtjkdfjkaeoklmaaW.PrintWords Go.Proofs.YtjkdfjkaeoklmaaW.PrintLast Go.Proofs.YtjkdfjkaeoklmaaW.PrintMore
set_option linter.unusedVariables false
set_option linter.unusedSimpArgs false

set_option maxHeartbeats 1000000 in
theorem clone30 (P2 : Nat → Prop) (A : Option Addr) (c : Nat) (l : List S32) (w : World) (hs : Kd.V k32 32 w w.heap.size (fun k_ => P2 k_) (.slice A l.length c) l) (hb : l.length < 4398046511104) :
    Calls Try.prog 30 #[.slice A l.length c] w fun e w' => ∃ v, e = .returned v ∧ (kF w P2).R 32 w' w.heap.size (fun _ => True) v l ∧ Below w.heap.size w w' := by
  have qT : ∀ (w : World) (a : Option Addr) (n c n' c' : Nat), (binOp .eql 26 (.slice a n c) (.slice none n' c')).run Try.prog w = .ok (.bool a.isNone) w := fun w a n c n' c' => Lib.run_eql_slice_nil w _ _ a n c n' c' Try.underlying26
  have HF := Aside0.mk (Kd.V_F hs)
  clear hs
  rcases A with _ | ad
  · have h0 : l = [] := by
      rcases l with _ | ⟨x, l⟩
      · rfl
      · obtain ⟨ad, h, _⟩ := (Kd.F_now HF.out).2.2 (by simp)
        cases h
    subst h0
    go_enter Try.func30, Try.ntmps30
    go_wp2
    go_ret
    exact ⟨_, rfl, Kd.R_nil _ _ _ _ _, Below.refl _ _⟩
  · have HRW := Aside0.mk (show ∀ o : Obj, ReadsRow (fun x cs => Kd.FK k32 w P2 x cs) 2 (w.alloc o) (some ad) l.length l from fun o => ReadsRow.imp_ (Kd.F_rows HF.out) (below_alloc (Below.refl _ _) o) (fun _ _ h => h))
    go_enter Try.func30, Try.ntmps30
    go_wp2_with (at_builtin; refine Kd.R_append_rows (kF w P2) (Rr := fun x cs => Kd.FK k32 w P2 x cs) (w0 := w) w.heap.size rfl _ _ 26 32 (.agg #[.int .i64 0, .slice none 0 0]) 32 rfl Try.underlying26 info32 rfl (Nat.zero_lt_succ 1) (by decide) _ [] l (some ad) l.length c (fun _ => True) (fun _ => False) rfl rfl (Kd.R_lit0 (kF w P2) 32 w) (HRW.out _) (fun _ _ h => h) (fun _ h => h.elim) (fun _ _ => trivial) ((Below.refl _ _).alloc (Nat.le_refl _) _) (by simp) (by simp; omega) ?_; intro v1 w1 HO1 HB1 hg1 hat1)
    go_ret
    exact ⟨_, rfl, by simpa using HO1, HB1⟩

theorem ins53e (v : Value) (a b : Nat) (f : Value) (W : World) (hab : b ≤ a + 1) (ha : a < 1000) : Calls Try.prog 53 #[v, .int .i64 a, .int .i64 b, f] W fun e w' => e = .returned (.tuple #[]) ∧ W = w' := by
  have q : ¬ ((a : Int) + 1 < (b : Int)) := by omega
  have q2 : IntKind.i64.wrap ((a : Int) + 1) = (a : Int) + 1 := by rw [i64_w]; exact w64 (by omega) (by omega)
  go_enter Try.func53, Try.ntmps53
  go_wp2_with fail
  refine wp_loop_rounds 1 ?_
  rw [rounds_succ]
  go_wp2_with fail
  go_end0
  exact ⟨rfl, rfl⟩

set_option maxHeartbeats 1000000 in
theorem stable46 (k : Nat) (A0 : Option Addr) (c0 : Nat) (l0 : List S45) (a1 : Int) (P2 : Nat → Prop) (v : Value) (l : List S32) (w W : World)
    (hr0 : Kd.C k45 w A0 l0.length l0) (hc0 : l0.length ≤ c0) (hB : Below w.heap.size w W) (hR : (kF w P2).R 32 W w.heap.size (fun _ => True) v l) (ha : allO k l0 a1 l) (hl : l.length ≤ 20) :
    Calls Try.prog 46 #[v, .int .i64 l.length, .func (.func 24) #[.agg #[.slice A0 l0.length c0, .int .u8 a1]] #[]] W fun e w' =>
      e = .returned (.tuple #[]) ∧ (kF w P2).R 32 w' w.heap.size (fun _ => True) v (sortL (ltO k l0 a1) l) ∧ Below w.heap.size w w' := by
  obtain ⟨A, c, rfl, hlc, hC⟩ := Kd.R_reads hR
  have HR := Aside0.mk hR
  have HB := Aside0.mk hB
  have HR0 := Aside0.mk hr0
  have HA := Aside0.mk ha
  clear hr0 hB hR ha hC
  by_cases h0 : l.length = 0
  · have hn : l = [] := List.eq_nil_of_length_eq_zero h0
    subst hn
    go_enter Try.func46, Try.ntmps46
    go_wp2_with fail
    refine wp_loop_rounds 1 ?_
    rw [rounds_succ]
    go_wp2_with (go_at_call 53; refine (ins53e _ 0 0 _ _ (by omega) (by omega)).mono ?_; rintro e w' ⟨rfl, rfl⟩)
    refine wp_loop_rounds 1 ?_
    rw [rounds_succ]
    go_wp2_with fail
    go_end0
    exact ⟨rfl, HR.out, HB.out⟩
  · have hA : ∃ ad, A = some ad := by
      obtain ⟨_, _, hC⟩ := Kd.R_reads' HR.out
      obtain ⟨ad, h, _⟩ := hC.2.2 (by omega)
      exact ⟨ad, h⟩
    obtain ⟨ad, rfl⟩ := hA
    obtain ⟨g, rfl⟩ := Kd.R_head HR.out
    by_cases h20 : l.length < 20
    · have q1 : ¬ ((20 : Int) ≤ (l.length : Int)) := by omega
      have q2 : ¬ ((20 : Int) < (l.length : Int)) := by omega
      go_enter Try.func46, Try.ntmps46
      go_wp2_with fail
      refine wp_loop_rounds 1 ?_
      rw [rounds_succ]
      go_wp2_with (go_at_call 53; refine (ins53 k _ _ l0 a1 P2 g c l w _ HR0.out hc0 HB.out HR.out HA.out).mono ?_; rintro e w' ⟨rfl, hR, hB⟩)
      refine wp_loop_rounds 1 ?_
      rw [rounds_succ]
      go_wp2_with fail
      go_end0
      exact ⟨rfl, hR, hB⟩
    · have h20 : l.length = 20 := by omega
      have e : (l.length : Int) = 20 := by omega
      have q1 : (20 : Int) ≤ (l.length : Int) := by omega
      have q2 : ¬ ((20 : Int) < (l.length : Int)) := by omega
      have q3 : ¬ ((40 : Int) ≤ (l.length : Int)) := by omega
      have C := ins53 k _ _ l0 a1 P2 g c l w _ HR0.out hc0 HB.out HR.out HA.out
      rw [e] at C
      have HC := Aside0.mk C
      have HE := Aside0.mk e
      clear C e
      replace h20 := Aside0.mk h20
      go_enter Try.func46, Try.ntmps46
      go_wp2_with fail
      refine wp_loop_rounds 2 ?_
      rw [rounds_succ]
      go_wp2_with (go_at_call 53; refine HC.out.mono ?_; rintro e w' ⟨rfl, hR, hB⟩)
      rw [rounds_succ]
      go_wp2_with (go_at_call 53; refine (ins53e _ 20 l.length _ _ (by have := HE.out; omega) (by omega)).mono ?_; rintro e w' ⟨rfl, rfl⟩)
      refine wp_loop_rounds 1 ?_
      rw [rounds_succ]
      go_wp2_with fail
      go_end0
      exact ⟨rfl, hR, hB⟩

set_option maxHeartbeats 1000000 in
theorem stable31 (k : Nat) (A0 : Option Addr) (c0 : Nat) (l0 : List S45) (a1 : Int) (P2 : Nat → Prop) (v : Value) (l : List S32) (w W : World)
    (hr0 : Kd.C k45 w A0 l0.length l0) (hc0 : l0.length ≤ c0) (hB : Below w.heap.size w W) (hR : (kF w P2).R 32 W w.heap.size (fun _ => True) v l) (ha : allO k l0 a1 l) (hl : l.length ≤ 20) :
    Calls Try.prog 31 #[v, .func (.func 24) #[.agg #[.slice A0 l0.length c0, .int .u8 a1]] #[]] W fun e w' =>
      e = .returned (.tuple #[]) ∧ (kF w P2).R 32 w' w.heap.size (fun _ => True) v (sortL (ltO k l0 a1) l) ∧ Below w.heap.size w w' := by
  obtain ⟨A, c, rfl, hlc, hC⟩ := Kd.R_reads hR
  have HR := Aside0.mk hR
  have HB := Aside0.mk hB
  have HR0 := Aside0.mk hr0
  have HA := Aside0.mk ha
  clear hr0 hB hR ha hC
  go_enter Try.func31, Try.ntmps31
  go_wp2_with (go_at_call 46; refine (stable46 k _ _ l0 a1 P2 _ l w _ HR0.out hc0 HB.out HR.out HA.out hl).mono ?_; rintro e w' ⟨rfl, hR, hB⟩)
  go_end0
  exact ⟨rfl, hR, hB⟩

/-- Sorted: as long as the comparison tells all pairs. -/
def order_Sort.f (k : Nat) (l0 : List S45) (a1 : Int) (l2 : List S32) : Option (List S32) :=
  if l2.length ≤ 20 ∧ (l2.all fun x => l2.all fun y => (order_orderer_compare.f k l0 a1 x.f0 x.f1 y.f0 y.f1).isSome) = true then some (sortL (ltO k l0 a1) l2) else none
theorem kF_V {w W : World} {P2 : Nat → Prop} {base base' : Nat} {v : Value} {l : List S32} (h : (kF w P2).R 32 W base (fun _ => True) v l) (hB : Below w.heap.size w W) (hb : w.heap.size ≤ base) : Kd.V k32 32 W base' (fun k => P2 k ∨ w.heap.size ≤ k) v l := by
  refine Kd.N_V (base := base) (Kd.N_mono (ok := fun k => P2 k ∧ k < w.heap.size ∨ base ≤ k) ?_ (fun k hk => hk.imp And.left (fun h => Nat.le_trans hb h)))
  have hbase : ∀ k, v.ownBlock = some k → base ≤ k := by
    obtain ⟨A, c, rfl⟩ := Kd.R_slice h
    exact fun k hk => Kd.R_base h k hk
  obtain ⟨h0, inner, ho, hr⟩ := h
  refine ⟨fun k hk => .inr (hbase k hk), Kd.chunks 2 l.length inner, Kd.chunks_length _ _ _, ⟨fun k hk => hk.symm, inner, by rw [Kd.chunks_length]; exact ho, Kd.reps_raw hr (fun x c hp => ⟨k32.K_len (Kd.FK_now hp), k32.K_one (Kd.FK_now hp)⟩)⟩, fun j x c hx hc => ?_⟩
  rw [Kd.chunks_get hc]
  have hK : Kd.FK k32 w P2 x _ := hr.2 j x hx
  exact Kd.FK_mono (Kd.FK_below (Kd.FK_bound hK) hB) (fun k hk => ⟨.inl hk, fun e => by have := hbase k e.symm; have := hk.2; omega⟩)
set_option maxHeartbeats 1000000 in
theorem order_Sort.calls (k : Nat) (A0 : Option Addr) (c0 : Nat) (l0 : List (S45)) (a1 : Int) (P2_ : Nat → Prop) (A2 : Option Addr) (c2 : Nat) (l2 : List (S32)) (r : List S32) (w : World) (hr0 : Kd.C k45 w A0 l0.length l0) (hc0 : l0.length ≤ c0) (hs2 : Kd.V k32 32 w w.heap.size (fun k_ => P2_ k_) (.slice A2 l2.length c2) l2) (h : order_Sort.f k l0 a1 l2 = some r) :
    Calls Try.prog 12 #[.slice A0 l0.length c0, .int .u8 a1, .slice A2 l2.length c2] w fun e w' => ∃ v0_ : Value, e = .returned v0_ ∧ Kd.V k32 32 w' w.heap.size (fun k_ => (P2_ k_ ∨ w.heap.size ≤ k_)) v0_ r ∧ Below w.heap.size w w' := by
  unfold order_Sort.f at h
  split at h
  · rename_i hc
    obtain ⟨h1, h2⟩ := hc
    obtain rfl := Option.some.inj h
    have h2' : allO k l0 a1 l2 := fun x hx y hy => List.all_eq_true.1 (List.all_eq_true.1 h2 x hx) y hy
    have HA := Aside0.mk h2'
    have HR0 := Aside0.mk hr0
    have HS := Aside0.mk hs2
    clear h h2 h2' hr0 hs2
    go_enter Try.func12, Try.ntmps12
    go_wp2_with (first
      | (go_at_call 30; refine (clone30 P2_ _ _ l2 _ HS.out (by omega)).mono ?_; rintro e w1 ⟨v, rfl, hR, hB⟩; have HR := Aside0.mk hR; have HB := Aside0.mk hB; clear hR hB)
      | (go_at_call 31; refine (stable31 k _ _ l0 a1 P2_ _ l2 w _ HR0.out hc0 HB.out HR.out HA.out h1).mono ?_; rintro e w2 ⟨rfl, hR2, hB2⟩))
    go_ret
    exact ⟨_, rfl, kF_V hR2 hB2 (Nat.le_refl _), hB2⟩
  · cases h
end Go.Proofs.Ytjkdfjkaeoklmaa.Q
namespace Go.Proofs.Ytjkdfjkaeoklmaa.Q
open Go.RowKit Go.Proofs.YtjkdfjkaeoklmaaW.PrintWords Go.Proofs.YtjkdfjkaeoklmaaW.PrintLast Go.Proofs.YtjkdfjkaeoklmaaW.PrintMore
set_option linter.unusedVariables false
set_option linter.unusedSimpArgs false
def ltR (k : Nat) (l0 : List S45) (a1 : Int) (x y : S32) : Bool := match intarsiaref26_Less.f k l0 a1 x.f0 x.f1 y.f0 y.f1 with | some t => t | none => false
end Go.Proofs.Ytjkdfjkaeoklmaa.Q
namespace Go.Proofs.Ytjkdfjkaeoklmaa.Q
open Go.RowKit Go.Proofs.YtjkdfjkaeoklmaaW.PrintWords Go.Proofs.YtjkdfjkaeoklmaaW.PrintLast Go.Proofs.YtjkdfjkaeoklmaaW.PrintMore
set_option linter.unusedVariables false
set_option linter.unusedSimpArgs false
/-- The first of those that no later one comes ahead of, as the loop finds it. -/
def bestL (lt : S32 → S32 → Bool) : S32 → Bool → List S38 → S32 × Bool
  | b, s, [] => (b, s)
  | b, s, x :: r => if x.f1 = false ∧ (s = false ∨ lt x.f0 b = true) then bestL lt x.f0 true r else bestL lt b s r
def intarsiaref26_Select.f (k : Nat) (l0 : List S45) (a1 : Int) (l2 : List S38) : Option (Int × List Int × Bool) :=
  if (l2.all fun x => l2.all fun y => (intarsiaref26_Less.f k l0 a1 x.f0.f0 x.f0.f1 y.f0.f0 y.f0.f1).isSome) = true then some ((bestL (ltR k l0 a1) ⟨0, []⟩ false l2).1.f0, (bestL (ltR k l0 a1) ⟨0, []⟩ false l2).1.f1, (bestL (ltR k l0 a1) ⟨0, []⟩ false l2).2) else none
theorem bestL_congr {lt lt' : S32 → S32 → Bool} {L : List S38} (h : ∀ x ∈ L, ∀ y ∈ L, lt x.f0 y.f0 = lt' x.f0 y.f0) : ∀ (r : List S38) (b : S32) (s : Bool), (∀ x ∈ r, x ∈ L) → (s = true → ∃ y ∈ L, y.f0 = b) → bestL lt b s r = bestL lt' b s r
  | [], _, _, _, _ => rfl
  | x :: r, b, s, hr, hb => by
    have hx := hr x (by simp)
    have e : (x.f1 = false ∧ (s = false ∨ lt x.f0 b = true)) ↔ (x.f1 = false ∧ (s = false ∨ lt' x.f0 b = true)) := by
      cases s with
      | false => simp
      | true =>
        obtain ⟨y, hy, rfl⟩ := hb rfl
        rw [h x hx y hy]
    rw [bestL, bestL]
    by_cases hc : x.f1 = false ∧ (s = false ∨ lt' x.f0 b = true)
    · rw [if_pos (e.2 hc), if_pos hc]
      exact bestL_congr h r _ _ (fun y hy => hr y (by simp [hy])) (fun _ => ⟨x, hx, rfl⟩)
    · rw [if_neg (fun h => hc (e.1 h)), if_neg hc]
      exact bestL_congr h r _ _ (fun y hy => hr y (by simp [hy])) hb
theorem elem38r {W : World} {base n c : Nat} {P : Nat → Prop} {A : Option Addr} {l : List S38} (h : Kd.V k38 38 W base P (.slice A n c) l) (i : Nat) (hi : i < l.length) {At : Option Addr} {ct : Nat} (hK : Kd.FK k32 W P l[i].f0 [.int .i64 l[i].f0.f0, .slice At l[i].f0.f1.length ct]) :
    l[i].f0.f1.length ≤ ct ∧ (Kd.int .i64).C W At l[i].f0.f1.length l[i].f0.f1 := by
  obtain ⟨A1, c1, e, h1, h2⟩ := k32_open (Kd.FK_now hK)
  injection e with _ e
  injection e with e _
  injection e with e1 e2 e3
  subst e1; subst e3
  exact ⟨h1, h2⟩

set_option maxHeartbeats 4000000 in
set_option maxRecDepth 100000 in
theorem intarsiaref26_Select.calls (k : Nat) (A0 : Option Addr) (c0 : Nat) (l0 : List (S45)) (a1 : Int) (P2_ : Nat → Prop) (A2 : Option Addr) (c2 : Nat) (l2 : List (S38)) (r1 : Int) (r2 : List Int) (r3 : Bool) (w : World) (hr0 : Kd.C k45 w A0 l0.length l0) (hc0 : l0.length ≤ c0) (hs2 : Kd.V k38 38 w w.heap.size (fun k_ => P2_ k_) (.slice A2 l2.length c2) l2) (h : intarsiaref26_Select.f k l0 a1 l2 = some (r1, r2, r3)) :
    Calls Try.prog 20 #[.slice A0 l0.length c0, .int .u8 a1, .slice A2 l2.length c2] w fun e w' => ∃ v1_ : Value, e = .returned (.tuple #[.agg #[.int .i64 r1, v1_], .bool r3]) ∧ Kd.V (Kd.int .i64) 3 w' w.heap.size (fun k_ => (P2_ k_ ∨ w.heap.size ≤ k_)) v1_ r2 ∧ Below w.heap.size w w' := by
  unfold intarsiaref26_Select.f at h
  split at h
  case isFalse => cases h
  rename_i h2
  obtain ⟨p, hp⟩ : ∃ p, p = bestL (ltR k l0 a1) ⟨0, []⟩ false l2 := ⟨_, rfl⟩
  rw [← hp] at h
  obtain ⟨rfl, h3⟩ := Prod.mk.inj (Option.some.inj h)
  obtain ⟨rfl, rfl⟩ := Prod.mk.inj h3
  have HA := Aside0.mk (show ∀ x ∈ l2, ∀ y ∈ l2, (intarsiaref26_Less.f k l0 a1 x.f0.f0 x.f0.f1 y.f0.f0 y.f0.f1).isSome = true from fun x hx y hy => List.all_eq_true.1 (List.all_eq_true.1 h2 x hx) y hy)
  have HR0 := Aside0.mk hr0
  have HS := Aside0.mk hs2
  have HP := Aside0.mk hp
  have hm : l2.length ≤ 9223372036854775807 := Kd.F_max (Kd.V_F hs2)
  clear h h2 h3 hr0 hs2 hp
  go_enter Try.func20, Try.ntmps20
  go_wp2_with (first
    | ((with_reducible refine gate_dst (N := 6) rfl ?_)
       refine box_event ?hg (N := 6) ?hd (cs := #[.int .i64 0, .slice none 0 0]) (t := 32) ?hr ?_
       (case hd => rfl)
       (case hg => rfl)
       (case hr => first | (go_simp; done) | (go_simp; rfl))
       intro g6 hg6 w6 hbox6 hb6
       have BK6 := Aside0.mk (And.intro hg6 (And.intro hbox6 hb6))
       clear hg6 hbox6 hb6)
    | ((with_reducible refine gate_dst (N := 8) rfl ?_)
       refine box_event ?hg (N := 8) ?hd (cs := #[.int .i64 0, .slice none 0 0]) (t := 32) ?hr ?_
       (case hd => rfl)
       (case hg => rfl)
       (case hr => first | (go_simp; done) | (go_simp; rfl))
       intro g8 hg8 w8 hbox8 hb8
       have hcz_0 : w8.cell? ⟨g8, 0, none⟩ = some (.int .i64 0) := (blk_cell hbox8 0).trans rfl
       have hcz_1 : w8.cell? ⟨g8, 1, none⟩ = some (.slice none 0 0) := (blk_cell hbox8 1).trans rfl
       have hfz_0 := blk_frozen hbox8 0
       have hfz_1 := blk_frozen hbox8 1
       have BK8 := Aside0.mk (And.intro hg8 (And.intro hbox8 hb8))
       clear hg8 hbox8 hb8))
  have hw6 : w.heap.size ≤ g6 := Nat.le_of_eq BK6.out.1.symm
  have hg68 : g6 < g8 := by
    have h1 := BK8.out.1
    have h2 := blk_lt BK6.out.2.1
    omega
  have hgn1 : g6 ≠ g8 := by omega
  have hw8 : w.heap.size ≤ g8 := by omega
  have HB8 := Aside0.mk (show Below w.heap.size w w8 from below_step BK6.out.2.2 BK8.out.2.2)
  clear hcz_0 hcz_1 hfz_0 hfz_1
  go_loopw [9, 10] (fun v9 v10 wr => ∃ (i : Nat) (s : Bool) (b : S32) (Ab : Option Addr) (cb : Nat), v9 = .bool s ∧ v10 = .int .i64 i ∧ i ≤ l2.length ∧ Aside0 (wr.heap[g8]? = some (.cells #[.int .i64 b.f0, .slice Ab b.f1.length cb] 32 (0, 0))) ∧ Aside0 (Kd.FK k32 w P2_ b [.int .i64 b.f0, .slice Ab b.f1.length cb]) ∧ Aside0 (s = true → ∃ y ∈ l2, y.f0 = b) ∧ Aside0 (bestL (ltR k l0 a1) b s (l2.drop i) = p) ∧ Aside0 (Below w.heap.size w wr) ∧ Aside0 (wr.heap[g6]? = some (.cells #[.int .i64 0, .slice none 0 0] 32 (0, 0)))) (fun _ v10 _ => l2.length - (intOf v10).toNat)
  case atStart =>
    refine ⟨0, false, ⟨0, []⟩, none, 0, rfl, rfl, Nat.zero_le _, ⟨?_⟩, ⟨?_⟩, ⟨by simp⟩, ⟨HP.out.symm⟩, ⟨?_⟩, ⟨?_⟩⟩
    · exact blk_put (blk_put BK8.out.2.1 0 _ rfl) 1 _ rfl
    · exact k32_mkF w _ _ (Nat.le_refl _) (Kd.F_nil _ _ _)
    · exact below_set (below_set HB8.out hw8) hw8
    · exact blk_far (blk_far (blk_below BK6.out.2.1 BK8.out.2.2) hgn1 _) hgn1 _
  case round =>
    obtain ⟨i, s, b, Ab, cb, rfl, rfl, hi, HG, HK, HS2, HE, HB, HG6⟩ := hrel
    by_cases hlt : i < l2.length
    · obtain ⟨ad, At, ct, rfl, hFK, hx0, hx1, hx2⟩ := elem38 HS.out i hlt
      have HFK := Aside0.mk hFK
      clear hFK
      have q1 : (i : Int) < (l2.length : Int) := by omega
      have q2 : (0 : Int) ≤ (i : Int) := by omega
      replace hx0 := (HB.out.cell (World.block_lt_of_cell? _ _ hx0)).trans hx0
      replace hx1 := (HB.out.cell (World.block_lt_of_cell? _ _ hx1)).trans hx1
      replace hx2 := (HB.out.cell (World.block_lt_of_cell? _ _ hx2)).trans hx2
      cases hf : l2[i].f1 with
      | true =>
        rw [hf] at hx2
        go_wp2_with fail
        go_quiet (fail)
        go_wp2_with fail
        go_roundw
        case rel =>
          refine ⟨i + 1, s, b, Ab, cb, rfl, by first | rfl | go_num, by omega, ⟨blk_below HG.out (pw_below_drewN (Below.refl wr.heap.size wr) nq)⟩, HK, HS2, ⟨?_⟩, ⟨below_step HB.out (pw_below_drewN (Below.refl wr.heap.size wr) nq)⟩, ⟨blk_below HG6.out (pw_below_drewN (Below.refl wr.heap.size wr) nq)⟩⟩
          rw [← HE.out, List.drop_eq_getElem_cons hlt, bestL, if_neg (fun h => by rw [hf] at h; cases h.1)]
        case measure => simp [intOf]; omega
      | false =>
        rw [hf] at hx2
        cases s with
        | false =>
          go_wp2_with fail
          go_quiet (fail)
          have hk8 := blk_drewN HG.out nq
          have hm0 : (wr.drewN nq).cell? ⟨g8, 0, none⟩ = some (.int .i64 b.f0) := (blk_cell hk8 0).trans rfl
          have hm1 : (wr.drewN nq).cell? ⟨g8, 1, none⟩ = some (.slice Ab b.f1.length cb) := (blk_cell hk8 1).trans rfl
          have hf0 := blk_frozen hk8 0
          have hf1 := blk_frozen hk8 1
          have HK8 := Aside0.mk hk8
          clear hk8
          obtain ⟨W, hW⟩ : ∃ W : World, wr.drewN nq = W := ⟨_, rfl⟩
          have HBX := Aside0.mk (show Below wr.heap.size wr W by rw [← hW]; exact pw_below_drewN (Below.refl wr.heap.size wr) nq)
          replace hx0 := (HBX.out.cell (World.block_lt_of_cell? _ _ hx0)).trans hx0
          replace hx1 := (HBX.out.cell (World.block_lt_of_cell? _ _ hx1)).trans hx1
          rw [hW] at hm0 hm1 hf0 hf1 ⊢
          clear hW
          go_wp2_with fail
          go_roundw
          case rel =>
            refine ⟨i + 1, true, l2[i].f0, At, ct, rfl, by first | rfl | go_num, by omega, ⟨?_⟩, HFK, ⟨fun _ => ⟨l2[i], List.getElem_mem _, rfl⟩⟩, ⟨?_⟩, ⟨?_⟩, ⟨?_⟩⟩
            · exact blk_put (blk_put (blk_below HG.out HBX.out) 0 _ rfl) 1 _ rfl
            · rw [← HE.out, List.drop_eq_getElem_cons hlt, bestL, if_pos ⟨hf, .inl rfl⟩]
            · exact below_set (below_set (below_step HB.out HBX.out) hw8) hw8
            · exact blk_far (blk_far (blk_below HG6.out HBX.out) hgn1 _) hgn1 _
          case measure => simp [intOf]; omega
        | true =>
          obtain ⟨y0, hy0, rfl⟩ := HS2.out rfl
          obtain ⟨t, ht⟩ := Option.isSome_iff_exists.1 (HA.out l2[i] (List.getElem_mem _) y0 hy0)
          have hlt' : ltR k l0 a1 l2[i].f0 y0.f0 = t := by simp only [ltR, ht]
          have HT := Aside0.mk ht
          have HL := Aside0.mk hlt'
          clear ht hlt'
          have HX := Aside0.mk (elem38r HS.out i hlt HFK.out)
          have HY := Aside0.mk (show y0.f0.f1.length ≤ cb ∧ (Kd.int .i64).C w Ab y0.f0.f1.length y0.f0.f1 by
            obtain ⟨A1, c1, e, h1, h2⟩ := k32_open (Kd.FK_now HK.out)
            injection e with _ e
            injection e with e _
            injection e with e1 e2 e3
            subst e1; subst e3
            exact ⟨h1, h2⟩)
          have hm0 : wr.cell? ⟨g8, 0, none⟩ = some (.int .i64 y0.f0.f0) := (blk_cell HG.out 0).trans rfl
          have hm1 : wr.cell? ⟨g8, 1, none⟩ = some (.slice Ab y0.f0.f1.length cb) := (blk_cell HG.out 1).trans rfl
          have bx0 := BelowOf.cell hx0
          have bx1 := BelowOf.cell hx1
          have bx2 := BelowOf.cell hx2
          have by0 := BelowOf.cell hm0
          have by1 := BelowOf.cell hm1
          go_wp2_with fail
          refine wp_region_below (by kernel_rfl) (by kernel_rfl) ?_
          repeat (quiet_step (first
            | (refine below_of (intarsiaref26_Less.calls k _ _ l0 a1 _ _ _ _ _ _ _ _ t _ ?s1 ?s2 ?s3 ?s4 ?s5 ?s6 HT.out)
               (case s1 => exact Kd.C_below HR0.out (below_step HB.out (BelowOf.h _)))
               (case s2 => exact hc0)
               (case s3 => exact Kd.C_below HX.out.2 (below_step HB.out (BelowOf.h _)))
               (case s4 => exact HX.out.1)
               (case s5 => exact Kd.C_below HY.out.2 (below_step HB.out (BelowOf.h _)))
               (case s6 => exact HY.out.1))))
          refine wpQuiet_nil ?_
          intro _ hw'
          obtain ⟨pq, hw''⟩ := hw'
          subst hw''
          clear bx0 bx1 bx2 by0 by1
          have HBX := Aside0.mk (show Below wr.heap.size wr pq.v from pq.h)
          have hk8 := blk_below HG.out HBX.out
          replace hm0 := BelowOf.cell hm0 pq
          replace hm1 := BelowOf.cell hm1 pq
          have hf0 := blk_frozen hk8 0
          have hf1 := blk_frozen hk8 1
          replace hx0 := BelowOf.cell hx0 pq
          replace hx1 := BelowOf.cell hx1 pq
          clear hk8
          cases t with
          | true =>
            go_wp2_with fail
            go_roundw
            case rel =>
              refine ⟨i + 1, true, l2[i].f0, At, ct, rfl, by first | rfl | go_num, by omega, ⟨?_⟩, HFK, ⟨fun _ => ⟨l2[i], List.getElem_mem _, rfl⟩⟩, ⟨?_⟩, ⟨?_⟩, ⟨?_⟩⟩
              · exact blk_put (blk_put (blk_below HG.out HBX.out) 0 _ rfl) 1 _ rfl
              · rw [← HE.out, List.drop_eq_getElem_cons hlt, bestL, if_pos ⟨hf, .inr HL.out⟩]
              · exact below_set (below_set (below_step HB.out HBX.out) hw8) hw8
              · exact blk_far (blk_far (blk_below HG6.out HBX.out) hgn1 _) hgn1 _
            case measure => simp [intOf]; omega
          | false =>
            go_wp2_with fail
            go_roundw
            case rel =>
              refine ⟨i + 1, true, y0.f0, Ab, cb, rfl, by first | rfl | go_num, by omega, ⟨blk_below HG.out HBX.out⟩, HK, ⟨fun _ => ⟨y0, hy0, rfl⟩⟩, ⟨?_⟩, ⟨below_step HB.out HBX.out⟩, ⟨blk_below HG6.out HBX.out⟩⟩
              rw [← HE.out, List.drop_eq_getElem_cons hlt, bestL, if_neg (fun h => by rcases h.2 with h | h; cases h; rw [HL.out] at h; cases h)]
            case measure => simp [intOf]; omega
    · obtain rfl : i = l2.length := by omega
      have hm0 : wr.cell? ⟨g8, 0, none⟩ = some (.int .i64 b.f0) := (blk_cell HG.out 0).trans rfl
      have hm1 : wr.cell? ⟨g8, 1, none⟩ = some (.slice Ab b.f1.length cb) := (blk_cell HG.out 1).trans rfl
      have hn0 : wr.cell? ⟨g6, 0, none⟩ = some (.int .i64 0) := (blk_cell HG6.out 0).trans rfl
      have hn1 : wr.cell? ⟨g6, 1, none⟩ = some (.slice none 0 0) := (blk_cell HG6.out 1).trans rfl
      have hf0 := blk_frozen HG6.out 0
      have hf1 := blk_frozen HG6.out 1
      go_wp2_with fail
      have e := HE.out
      rw [List.drop_length, bestL] at e
      subst e
      refine bodyPost_ret (results_ct rfl _ _ g6 32 #[.int .i64 b.f0, .slice Ab b.f1.length cb] (0, 0) _ rfl (blk_put (blk_put HG6.out 0 _ rfl) 1 _ rfl) Try.underlying32 rfl (by kernel_rfl)) rfl ?_
      have hB := below_set (below_set HB.out hw6 (j := 0) (v := .int .i64 b.f0)) hw6 (j := 1) (v := .slice Ab b.f1.length cb)
      obtain ⟨A1, c1, e, h1, h2⟩ := k32_openF HK.out
      injection e with _ e
      injection e with e _
      injection e with e1 e2 e3
      subst e1; subst e3
      exact ⟨_, rfl, Kd.V_mk h1 (Kd.F_mono (Kd.F_below h2 hB) (fun _ h => .inl h)), hB⟩
end Go.Proofs.Ytjkdfjkaeoklmaa.Q
namespace Go.Proofs.Ytjkdfjkaeoklmaa.Q
open Go.RowKit Go.Proofs.YtjkdfjkaeoklmaaW.PrintWords
set_option linter.unusedVariables false
set_option linter.unusedSimpArgs false
section
variable {lt : S32 → S32 → Bool}
/-- None comes ahead of one before it. -/
def Sorted (lt : S32 → S32 → Bool) (l : List S32) : Prop := l.Pairwise (fun a b => lt b a = false)
variable (irr : ∀ x, lt x x = false) (tri : ∀ x y, x ≠ y → lt x y = !lt y x) (tr : ∀ x y z, lt x y = true → lt y z = true → lt x z = true)
end
/-- The least one, told on. -/
def minT (lt : S32 → S32 → Bool) : S32 → List S32 → S32
  | m, [] => m
  | m, x :: r => if lt x m = true then minT lt x r else minT lt m r
section
variable {lt : S32 → S32 → Bool} (irr : ∀ x, lt x x = false) (tri : ∀ x y, x ≠ y → lt x y = !lt y x) (tr : ∀ x y z, lt x y = true → lt y z = true → lt x z = true)
theorem minT_mem : ∀ (r : List S32) (m : S32), minT lt m r ∈ m :: r
  | [], m => by simp [minT]
  | x :: r, m => by
    rw [minT]
    split
    · have := minT_mem r x
      simp at this ⊢
      grind
    · have := minT_mem r m
      simp at this ⊢
      grind
end
/-- The entries that were not fired. -/
def unfired (l : List S38) : List S32 := (l.filter fun x => !x.f1).map (·.f0)
theorem bestL_true (lt : S32 → S32 → Bool) : ∀ (l : List S38) (b : S32), bestL lt b true l = (minT lt b (unfired l), true)
  | [], b => rfl
  | x :: r, b => by
    rw [bestL]
    cases hf : x.f1 with
    | true =>
      rw [if_neg (by simp), bestL_true lt r b]
      simp [unfired, hf]
    | false =>
      have e : unfired (x :: r) = x.f0 :: unfired r := by simp [unfired, hf]
      rw [e, minT]
      by_cases hl : lt x.f0 b = true
      · rw [if_pos ⟨rfl, .inr hl⟩, if_pos hl, bestL_true lt r]
      · rw [if_neg (by simp [hl]), if_neg hl, bestL_true lt r]
theorem bestL_false (lt : S32 → S32 → Bool) (b : S32) : ∀ (l : List S38), bestL lt b false l = match unfired l with | [] => (b, false) | m :: r => (minT lt m r, true)
  | [] => rfl
  | x :: r => by
    rw [bestL]
    cases hf : x.f1 with
    | true =>
      rw [if_neg (by simp), bestL_false lt b r]
      simp [unfired, hf]
    | false =>
      have e : unfired (x :: r) = x.f0 :: unfired r := by simp [unfired, hf]
      rw [e, if_pos ⟨rfl, .inl rfl⟩, bestL_true lt r]
end Go.Proofs.Ytjkdfjkaeoklmaa.Q
namespace Go.Proofs.Ytjkdfjkaeoklmaa.Q
open Go.RowKit Go.Proofs.YtjkdfjkaeoklmaaW.PrintWords
set_option linter.unusedVariables false
set_option linter.unusedSimpArgs false
theorem ev_all {α β : Type} {g : α → Nat → Option β} {v : α → β} : ∀ (l : List α), (∀ x ∈ l, Ev (g x) (v x)) → ∃ K, ∀ k, K ≤ k → ∀ x ∈ l, g x k = some (v x)
  | [], _ => ⟨0, fun _ _ _ h => by cases h⟩
  | x :: l, h => by
    obtain ⟨K1, h1⟩ := h x (by simp)
    obtain ⟨K2, h2⟩ := ev_all l (fun y hy => h y (by simp [hy]))
    exact ⟨max K1 K2, fun k hk y hy => by
      rcases List.mem_cons.1 hy with rfl | hy
      · exact h1 k (by omega)
      · exact h2 k (by omega) y hy⟩
theorem ev_pairs {α β : Type} {g : α → α → Nat → Option β} {v : α → α → β} (l : List α) (h : ∀ x ∈ l, ∀ y ∈ l, Ev (g x y) (v x y)) : ∃ K, ∀ k, K ≤ k → ∀ x ∈ l, ∀ y ∈ l, g x y k = some (v x y) := by
  have h1 : ∀ x ∈ l, ∃ K, ∀ k, K ≤ k → ∀ y ∈ l, g x y k = some (v x y) := fun x hx => ev_all l (h x hx)
  have : ∀ l' : List α, (∀ x ∈ l', x ∈ l) → ∃ K, ∀ k, K ≤ k → ∀ x ∈ l', ∀ y ∈ l, g x y k = some (v x y) := by
    intro l'
    induction l' with
    | nil => exact fun _ => ⟨0, fun _ _ _ h => by cases h⟩
    | cons x l' ih =>
      intro hl
      obtain ⟨K1, e1⟩ := h1 x (hl x (by simp))
      obtain ⟨K2, e2⟩ := ih (fun y hy => hl y (by simp [hy]))
      exact ⟨max K1 K2, fun k hk z hz => by
        rcases List.mem_cons.1 hz with rfl | hz
        · exact e1 k (by omega)
        · exact e2 k (by omega) z hz⟩
  exact this l (fun _ h => h)
/-- Tags short enough. -/
def okInsts (l : List S32) : Prop := ∀ x ∈ l, x.f1.length ≤ 12
theorem sort_o_val (l0 : List S45) (h0 : okRules l0) (how : Int) (l : List S32) (hl : okInsts l) (h20 : l.length ≤ 20) : Ev (fun k => order_Sort.f k l0 how l) (sortL (lessP l0 how) l) := by
  obtain ⟨K, hK⟩ := ev_pairs (g := fun x y k => order_orderer_compare.f k l0 how x.f0 x.f1 y.f0 y.f1) (v := fun x y => compareP l0 how x y) l (fun x hx y hy => compare_val l0 h0 how x y (hl x hx) (hl y hy))
  refine ⟨K, fun k hk => ?_⟩
  have h := hK k hk
  simp only [order_Sort.f]
  rw [if_pos ⟨h20, List.all_eq_true.2 fun x hx => List.all_eq_true.2 fun y hy => by rw [h x hx y hy]; rfl⟩]
  congr 1
  exact sortL_congr (fun x hx y hy => by simp only [ltO, lessP, h x hx y hy])
theorem minL_val (l0 : List S45) (h0 : okRules l0) (how : Int) : ∀ (r : List S32) (m : S32), m.f1.length ≤ 12 → okInsts r → Ev (fun k => minL k l0 how m r) (minT (lessP l0 how) m r)
  | [], m, _, _ => Ev.now _
  | x :: r, m, hm, hr => by
    have hx := hr x (by simp)
    have hr' : okInsts r := fun y hy => hr y (by simp [hy])
    refine Ev.congr (f := fun k => (order_orderer_compare.f k l0 how x.f0 x.f1 m.f0 m.f1).bind fun t => if t < 0 then minL k l0 how x r else minL k l0 how m r) (fun k => by rw [minL]) ?_
    refine Ev.bind (compare_val l0 h0 how x m hx hm) ?_
    rw [minT]
    by_cases ht : compareP l0 how x m < 0
    · simp only [lessP, ht, decide_true, if_true]
      exact minL_val l0 h0 how r x hx hr'
    · simp only [lessP, ht, decide_false, if_false]
      exact minL_val l0 h0 how r m hm hr'
/-- What is chosen of some entries. -/
def selP (lt : S32 → S32 → Bool) (l : List S38) : Int × List Int × Bool := match unfired l with | [] => (0, [], false) | m :: r => ((minT lt m r).f0, (minT lt m r).f1, true)
def okEntries (l : List S38) : Prop := ∀ x ∈ l, x.f0.f1.length ≤ 12
theorem okEntries.un {l : List S38} (h : okEntries l) : okInsts (unfired l) := by
  intro x hx
  obtain ⟨y, hy, rfl⟩ := List.mem_map.1 hx
  exact h y (List.mem_filter.1 hy).1
theorem select_o_val (l0 : List S45) (h0 : okRules l0) (how : Int) (l : List S38) (hl : okEntries l) (hb : l.length < 4398046511104) : Ev (fun k => order_Select.f k l0 how l) (selP (lessP l0 how) l) := by
  refine Ev.congr (f := fun k => minOf k l0 how (unfired l)) (fun k => by rw [order_Select.f, if_pos hb]; rfl) ?_
  unfold selP
  have hu := hl.un
  cases hc : unfired l with
  | nil => exact Ev.now _
  | cons m r =>
    rw [hc] at hu
    refine Ev.congr (f := fun k => (minL k l0 how m r).bind fun m => some (m.f0, m.f1, true)) (fun k => by rw [minOf]) ?_
    exact Ev.bind (minL_val l0 h0 how r m (hu m (by simp)) (fun y hy => hu y (by simp [hy]))) (Ev.now _)
theorem select_r_val (l0 : List S45) (h0 : okRules l0) (how : Int) (l : List S38) (hl : okEntries l) : Ev (fun k => intarsiaref26_Select.f k l0 how l) (selP (lessP l0 how) l) := by
  obtain ⟨K, hK⟩ := ev_pairs (g := fun (x y : S38) k => intarsiaref26_Less.f k l0 how x.f0.f0 x.f0.f1 y.f0.f0 y.f0.f1) (v := fun x y => lessP l0 how x.f0 y.f0) l (fun x hx y hy => less_r_val l0 h0 how x.f0 y.f0 (hl x hx) (hl y hy))
  refine ⟨K, fun k hk => ?_⟩
  have h := hK k hk
  simp only [intarsiaref26_Select.f]
  rw [if_pos (List.all_eq_true.2 fun x hx => List.all_eq_true.2 fun y hy => by rw [h x hx y hy]; rfl)]
  rw [bestL_congr (L := l) (lt := ltR k l0 how) (lt' := lessP l0 how) (fun x hx y hy => by simp only [ltR, h x hx y hy]) l _ _ (fun _ h => h) (by simp), bestL_false]
  unfold selP
  cases unfired l <;> rfl
end Go.Proofs.Ytjkdfjkaeoklmaa.Q
namespace Go.Proofs.Ytjkdfjkaeoklmaa.Q
open Go.RowKit Go.Proofs.YtjkdfjkaeoklmaaW.PrintWords Go.Proofs.YtjkdfjkaeoklmaaW.PrintLast Go.Proofs.YtjkdfjkaeoklmaaW.PrintMore
set_option linter.unusedVariables false
set_option linter.unusedSimpArgs false
theorem inst23 (a : Int) (A : Option Addr) (n c : Nat) (w : World) : Calls Try.prog 23 #[.int .i64 a, .slice A n c] w fun e w' => e = .returned (.agg #[.int .i64 a, .slice A n c]) ∧ Below w.heap.size w w' := by
  go_enter Try.func23, Try.ntmps23
  go_wp2_with (first
    | ((with_reducible refine gate_dst (N := 4) rfl ?_)
       refine box_event ?hg (N := 4) ?hd (cs := #[.int .i64 0, .slice none 0 0]) (t := 32) ?hr ?_
       (case hd => rfl)
       (case hg => rfl)
       (case hr => first | (go_simp; done) | (go_simp; rfl))
       intro g4 hg4 w4 hbox4 hb4
       have hcz_0 : w4.cell? ⟨g4, 0, none⟩ = some (.int .i64 0) := (blk_cell hbox4 0).trans rfl
       have hcz_1 : w4.cell? ⟨g4, 1, none⟩ = some (.slice none 0 0) := (blk_cell hbox4 1).trans rfl
       have hfz_0 := blk_frozen hbox4 0
       have hfz_1 := blk_frozen hbox4 1
       have BK4 := Aside0.mk (And.intro hg4 (And.intro hbox4 hb4))
       clear hg4 hbox4 hb4))
  refine bodyPost_ret (results_single rfl (.cell g4 32 #[.int .i64 a, .slice A n c] (0, 0) _ rfl (blk_put (blk_put BK4.out.2.1 0 _ rfl) 1 _ rfl) Try.underlying32 rfl (by kernel_rfl) .nil)) rfl ?_
  exact ⟨rfl, below_set (below_set BK4.out.2.2 (Nat.le_of_eq BK4.out.1.symm)) (Nat.le_of_eq BK4.out.1.symm)⟩
end Go.Proofs.Ytjkdfjkaeoklmaa.Q
namespace Go.Proofs.Ytjkdfjkaeoklmaa.Q
open Go.RowKit Go.Proofs.YtjkdfjkaeoklmaaW.PrintWords
set_option linter.unusedVariables false
set_option linter.unusedSimpArgs false
theorem rec_eq (l r : List Int) (hp : r.Perm (l.filter pos?)) (hs : r.reverse.Pairwise (· ≤ ·)) : recency l = r := by
  unfold recency
  rw [← srt_eq ((List.reverse_perm r).trans hp) hs, List.reverse_reverse]
theorem rc22 : recency [2, 2] = [2, 2] := rec_eq _ _ (by decide) (by decide)
theorem rc31 : recency [3, 1] = [3, 1] := rec_eq _ _ (by decide) (by decide)
theorem rc3 : recency [3] = [3] := rec_eq _ _ (by decide) (by decide)
theorem rc21 : recency [2, 1] = [2, 1] := rec_eq _ _ (by decide) (by decide)
theorem rc19 : recency [1, 9] = [9, 1] := rec_eq _ _ (by decide) (by decide)
theorem rc103 : recency [1, 0, 3] = [3, 1] := rec_eq _ _ (by decide) (by decide)
theorem okNil : okRules [] := ⟨by decide, by simp⟩
def awE : List S38 := [⟨⟨0, [9]⟩, true⟩, ⟨⟨0, [2, 2]⟩, false⟩, ⟨⟨1, [3, 1]⟩, false⟩, ⟨⟨0, [3]⟩, false⟩]
theorem aw_sel : selP (lessP [] 0) awE = (1, [3, 1], true) := by
  simp [selP, unfired, awE, minT, lessP, compareP, orP, rc22, rc31, rc3, cmpL, cmpI, strAt]
theorem aw_less1 : lessP [] 0 ⟨0, [3, 1]⟩ ⟨0, [3]⟩ = true := by
  simp [lessP, compareP, orP, rc31, rc3, cmpL, cmpI, strAt]
theorem aw_less2 : lessP [] 1 ⟨0, [2, 1]⟩ ⟨0, [1, 9]⟩ = true := by
  simp [lessP, compareP, orP, rc21, rc19, cmpL, cmpI, strAt, firstP]
theorem aw_less3 : lessP [] 0 ⟨0, [2, 1]⟩ ⟨0, [1, 9]⟩ = false := by
  simp [lessP, compareP, orP, rc21, rc19, cmpL, cmpI, strAt, firstP]
theorem same_l0 (l m : List Int) (hl : l.length = m.length) (hb : l.length ≤ 9223372036854775807) : ∀ (n i : Nat), l.length - i = n → i ≤ l.length → l.take i = m.take i → Ev (fun k => intarsiaref21_SameInts.l0 k l m (i : Int)) (decide (l = m))
  | 0, i, hn, hi, ht => by
    obtain rfl : i = l.length := by omega
    refine one_round (fun k => ?_)
    simp only [intarsiaref21_SameInts.l0]
    rw [if_neg (by omega)]
    rw [List.take_length, hl, List.take_length] at ht
    rw [decide_eq_true ht]
  | n + 1, i, hn, hi, ht => by
    have hlt : i < l.length := by omega
    have hlm : i < m.length := by omega
    by_cases hc : l[i] = m[i]
    · refine Ev.step (fun k => ?_) (same_l0 l m hl hb n (i + 1) (by omega) (by omega) (by rw [List.take_succ_eq_append_getElem hlt, List.take_succ_eq_append_getElem hlm, ht, hc]))
      simp only [intarsiaref21_SameInts.l0]
      rw [if_pos (by omega), if_pos (by omega), if_pos (by omega), rd_at hlt, rd_at hlm, if_pos hc, w64 (by omega) (by omega)]
      rfl
    · have : decide (l = m) = false := decide_eq_false (fun e => by subst e; exact hc rfl)
      rw [this]
      refine one_round (fun k => ?_)
      simp only [intarsiaref21_SameInts.l0]
      rw [if_pos (by omega), if_pos (by omega), if_pos (by omega), rd_at hlt, rd_at hlm, if_neg hc]
theorem same_val (l m : List Int) (hb : l.length ≤ 9223372036854775807) : Ev (fun k => intarsiaref21_SameInts.f k l m) (decide (l = m)) := by
  by_cases h : l.length = m.length
  · refine Ev.congr (f := fun k => intarsiaref21_SameInts.l0 k l m ((0 : Nat) : Int)) (fun k => ?_) (same_l0 l m h hb _ 0 rfl (Nat.zero_le _) rfl)
    rw [intarsiaref21_SameInts.f, if_pos (by omega)]
    rfl
  · have : decide (l = m) = false := decide_eq_false (fun e => h (by rw [e]))
    rw [this]
    refine Ev.congr (f := fun _ => some false) (fun k => ?_) (Ev.now _)
    rw [intarsiaref21_SameInts.f, if_neg (by omega)]
end Go.Proofs.Ytjkdfjkaeoklmaa.Q
namespace Go.Proofs.Ytjkdfjkaeoklmaa.Q
open Go.RowKit Go.Proofs.YtjkdfjkaeoklmaaW.PrintWords Go.Proofs.YtjkdfjkaeoklmaaW.PrintLast Go.Proofs.YtjkdfjkaeoklmaaW.PrintMore
set_option linter.unusedVariables false
set_option linter.unusedSimpArgs false
/-- What a kind reads, in a past world, whatever it leads to. -/
def kG {α : Type} (d : Kd α) (w : World) : Kd α where
  sz := d.sz
  E := []
  K := fun _ x cs => Kd.FK d w (fun _ => True) x cs
  M := fun _ _ _ x cs => Kd.FK d w (fun _ => True) x cs
  K_len := fun h => d.K_len (Kd.FK_now h)
  K_one := fun h => d.K_one (Kd.FK_now h)
  K_below := fun _ h => h
  K_of_M := fun h => h
  M_mono := fun _ h => h
  M_bound := fun h => h
  M_move := fun _ h => h
  M_lower := fun _ h => h
theorem F_all {α : Type} {d : Kd α} (hd : Kd.Heap d) {w : World} {A : Option Addr} {n : Nat} {xs : List α} (h : d.C w A n xs) : Kd.F d w (fun _ => True) A n xs := fun W' hW => hd.C (fun k hk => hW k trivial hk) h
theorem kG_V {α : Type} {d : Kd α} (hd : Kd.Heap d) {w w1 : World} {e base : Nat} {ok : Nat → Prop} {v : Value} {xs : List α} (h : (kG d w).R e w1 base ok v xs) (hb : Below w.heap.size w w1) {b : Nat} : Kd.V d e w1 b (fun _ => True) v xs := by
  obtain ⟨A, c, rfl, hl, hC⟩ := Kd.R_reads h
  refine Kd.V_mk hl (F_all hd ⟨hC.1, hC.2.1, fun hn => ?_⟩)
  obtain ⟨ad, rfl, hc⟩ := hC.2.2 hn
  refine ⟨ad, rfl, fun j p hj => ?_⟩
  obtain ⟨c, hs, hr, hcell⟩ := hc j p hj
  exact ⟨c, hs, hr w1 (fun k _ hk => hb.block k hk), hcell⟩
theorem repsN_cons {α : Type} {R : α → List Value → Prop} {sz : Nat} {x : α} {cs : List Value} {xs : List α} {inner : List Value} (h : R x cs) (hl : cs.length = sz) (hr : Reps R sz xs inner) : Reps R sz (x :: xs) (cs ++ inner) := by
  refine ⟨by rw [List.length_append, hl, hr.1, List.length_cons, Nat.succ_mul, Nat.add_comm], fun j p hj => ?_⟩
  cases j with
  | zero =>
    simp at hj
    subst hj
    rw [Nat.zero_mul, List.drop_zero, ← hl, List.take_left']
    · exact h
    · rfl
  | succ j =>
    have := hr.2 j p (by simpa using hj)
    rw [show (j + 1) * sz = cs.length + j * sz by rw [Nat.succ_mul, hl, Nat.add_comm], List.drop_append, List.drop_of_length_le (by omega), List.nil_append, Nat.add_sub_cancel_left]
    exact this
theorem drawn_below {w w1 : World} (h : Drawn0 w w1) : Below w.heap.size w w1 := by
  obtain ⟨n, rfl⟩ := h
  exact pw_below_drewN (Below.refl _ _) n
set_option maxHeartbeats 4000000 in
set_option maxRecDepth 100000 in
theorem awake8 (KK : Nat) (w : World) (h1 : order_Select.f KK [] 0 awE = some (1, [3, 1], true)) (h2 : order_Less.f KK [] 0 0 [3, 1] 0 [3] = some true) (h3 : order_Less.f KK [] 1 0 [2, 1] 0 [1, 9] = some true) (h4 : order_Less.f KK [] 0 0 [2, 1] 0 [1, 9] = some false)
    (h5 : order_Recency.f [1, 0, 3] = some [3, 1]) (h6 : intarsiaref21_SameInts.f KK [3, 1] [3, 1] = some true) (h7 : order_Sort.f KK [] 0 [⟨0, [1]⟩] = some [⟨0, [1]⟩]) :
    Calls Try.prog 8 #[] w fun e w' => e = .returned (.bool true) ∧ Below w.heap.size w w' := by
  have hu38 := Try.underlying38
  have hu32 := Try.underlying32
  have HB := Aside0.mk (Below.refl w.heap.size w)
  have HSEL := Aside0.mk h1
  have HL1 := Aside0.mk h2
  have HL2 := Aside0.mk h3
  have HL3 := Aside0.mk h4
  have HREC := Aside0.mk h5
  have HSAME := Aside0.mk h6
  have HSRT := Aside0.mk h7
  clear h1 h2 h3 h4 h5 h6 h7
  go_enter Try.func8, Try.ntmps8
  go_wp2_with (first
   | ((with_reducible refine gate_dst (N := 4) rfl ?_); (try (refine gate_guard (by rfl) ?_; dsimp only)); refine Kd.R_lit (Kd.int .i64) _ 3 ?hg (N := 4) ?hd (xs := ([9] : List Int)) (inner := [.int .i64 9]) (ok := fun _ => True) (okp := fun _ => True) ?hr ?hp (fun _ hk => hk) trivial (Below.refl _ _) (Nat.le_refl _) (by decide) ?_; (case hd => rfl); (case hg => rfl); (case hr => first | (go_simp; done) | (go_simp; rfl)); (case hp => exact (Reps.one (show Kd.M (Kd.int .i64) _ _ _ 9 [.int .i64 9] from rfl) (Reps.none _ _))); intro v4 w4 ho hb hg_ hnew_; clear hg_ hnew_; obtain ⟨A4, c4, rfl, hl, hc⟩ := Kd.R_reads ho; have HL4 := Aside0.mk hl; have HC4 := Aside0.mk hc; clear ho hl hc; have HB_ := Aside0.mk (below_step HB.out hb); clear HB; have HB := HB_; clear HB_; clear hb)
   | ((with_reducible refine gate_callee (f := 23) rfl ?_); (try (refine gate_guard (by rfl) ?_; dsimp only)); refine goesL_ (some 5) rfl rfl Try.func23 (by kernel_rfl) rfl #[.int .i64 0, .slice A4 1 c4] rfl (by first | rfl | (go_simp; done) | (go_simp; rfl)) ?_; refine (inst23 0 A4 1 c4 _).mono ?_; rintro e w5 ⟨rfl, hb⟩; refine ⟨_, rfl, ?_⟩; have HB_ := Aside0.mk (below_step HB.out hb); clear HB; have HB := HB_; clear HB_; have n_ := Aside0.mk (Kd.C_below HC4.out hb); clear HC4; have HC4 := n_; clear n_; clear hb)
   | ((with_reducible refine gate_dst (N := 7) rfl ?_); (try (refine gate_guard (by rfl) ?_; dsimp only)); refine Kd.R_lit (Kd.int .i64) _ 3 ?hg (N := 7) ?hd (xs := ([2, 2] : List Int)) (inner := [.int .i64 2, .int .i64 2]) (ok := fun _ => True) (okp := fun _ => True) ?hr ?hp (fun _ hk => hk) trivial (Below.refl _ _) (Nat.le_refl _) (by decide) ?_; (case hd => rfl); (case hg => rfl); (case hr => first | (go_simp; done) | (go_simp; rfl)); (case hp => exact (Reps.one (show Kd.M (Kd.int .i64) _ _ _ 2 [.int .i64 2] from rfl) (Reps.one (show Kd.M (Kd.int .i64) _ _ _ 2 [.int .i64 2] from rfl) (Reps.none _ _)))); intro v7 w7 ho hb hg_ hnew_; clear hg_ hnew_; obtain ⟨A7, c7, rfl, hl, hc⟩ := Kd.R_reads ho; have HL7 := Aside0.mk hl; have HC7 := Aside0.mk hc; clear ho hl hc; have HB_ := Aside0.mk (below_step HB.out hb); clear HB; have HB := HB_; clear HB_; have n_ := Aside0.mk (Kd.C_below HC4.out hb); clear HC4; have HC4 := n_; clear n_; clear hb)
   | ((with_reducible refine gate_callee (f := 23) rfl ?_); (try (refine gate_guard (by rfl) ?_; dsimp only)); refine goesL_ (some 8) rfl rfl Try.func23 (by kernel_rfl) rfl #[.int .i64 0, .slice A7 2 c7] rfl (by first | rfl | (go_simp; done) | (go_simp; rfl)) ?_; refine (inst23 0 A7 2 c7 _).mono ?_; rintro e w8 ⟨rfl, hb⟩; refine ⟨_, rfl, ?_⟩; have HB_ := Aside0.mk (below_step HB.out hb); clear HB; have HB := HB_; clear HB_; have n_ := Aside0.mk (Kd.C_below HC4.out hb); clear HC4; have HC4 := n_; clear n_; have n_ := Aside0.mk (Kd.C_below HC7.out hb); clear HC7; have HC7 := n_; clear n_; clear hb)
   | ((with_reducible refine gate_dst (N := 10) rfl ?_); (try (refine gate_guard (by rfl) ?_; dsimp only)); refine Kd.R_lit (Kd.int .i64) _ 3 ?hg (N := 10) ?hd (xs := ([3, 1] : List Int)) (inner := [.int .i64 3, .int .i64 1]) (ok := fun _ => True) (okp := fun _ => True) ?hr ?hp (fun _ hk => hk) trivial (Below.refl _ _) (Nat.le_refl _) (by decide) ?_; (case hd => rfl); (case hg => rfl); (case hr => first | (go_simp; done) | (go_simp; rfl)); (case hp => exact (Reps.one (show Kd.M (Kd.int .i64) _ _ _ 3 [.int .i64 3] from rfl) (Reps.one (show Kd.M (Kd.int .i64) _ _ _ 1 [.int .i64 1] from rfl) (Reps.none _ _)))); intro v10 w10 ho hb hg_ hnew_; clear hg_ hnew_; obtain ⟨A10, c10, rfl, hl, hc⟩ := Kd.R_reads ho; have HL10 := Aside0.mk hl; have HC10 := Aside0.mk hc; clear ho hl hc; have HB_ := Aside0.mk (below_step HB.out hb); clear HB; have HB := HB_; clear HB_; have n_ := Aside0.mk (Kd.C_below HC4.out hb); clear HC4; have HC4 := n_; clear n_; have n_ := Aside0.mk (Kd.C_below HC7.out hb); clear HC7; have HC7 := n_; clear n_; clear hb)
   | ((with_reducible refine gate_callee (f := 23) rfl ?_); (try (refine gate_guard (by rfl) ?_; dsimp only)); refine goesL_ (some 11) rfl rfl Try.func23 (by kernel_rfl) rfl #[.int .i64 1, .slice A10 2 c10] rfl (by first | rfl | (go_simp; done) | (go_simp; rfl)) ?_; refine (inst23 1 A10 2 c10 _).mono ?_; rintro e w11 ⟨rfl, hb⟩; refine ⟨_, rfl, ?_⟩; have HB_ := Aside0.mk (below_step HB.out hb); clear HB; have HB := HB_; clear HB_; have n_ := Aside0.mk (Kd.C_below HC4.out hb); clear HC4; have HC4 := n_; clear n_; have n_ := Aside0.mk (Kd.C_below HC7.out hb); clear HC7; have HC7 := n_; clear n_; have n_ := Aside0.mk (Kd.C_below HC10.out hb); clear HC10; have HC10 := n_; clear n_; clear hb)
   | ((with_reducible refine gate_dst (N := 13) rfl ?_); (try (refine gate_guard (by rfl) ?_; dsimp only)); refine Kd.R_lit (Kd.int .i64) _ 3 ?hg (N := 13) ?hd (xs := ([3] : List Int)) (inner := [.int .i64 3]) (ok := fun _ => True) (okp := fun _ => True) ?hr ?hp (fun _ hk => hk) trivial (Below.refl _ _) (Nat.le_refl _) (by decide) ?_; (case hd => rfl); (case hg => rfl); (case hr => first | (go_simp; done) | (go_simp; rfl)); (case hp => exact (Reps.one (show Kd.M (Kd.int .i64) _ _ _ 3 [.int .i64 3] from rfl) (Reps.none _ _))); intro v13 w13 ho hb hg_ hnew_; clear hg_ hnew_; obtain ⟨A13, c13, rfl, hl, hc⟩ := Kd.R_reads ho; have HL13 := Aside0.mk hl; have HC13 := Aside0.mk hc; clear ho hl hc; have HB_ := Aside0.mk (below_step HB.out hb); clear HB; have HB := HB_; clear HB_; have n_ := Aside0.mk (Kd.C_below HC4.out hb); clear HC4; have HC4 := n_; clear n_; have n_ := Aside0.mk (Kd.C_below HC7.out hb); clear HC7; have HC7 := n_; clear n_; have n_ := Aside0.mk (Kd.C_below HC10.out hb); clear HC10; have HC10 := n_; clear n_; clear hb)
   | ((with_reducible refine gate_callee (f := 23) rfl ?_); (try (refine gate_guard (by rfl) ?_; dsimp only)); refine goesL_ (some 14) rfl rfl Try.func23 (by kernel_rfl) rfl #[.int .i64 0, .slice A13 1 c13] rfl (by first | rfl | (go_simp; done) | (go_simp; rfl)) ?_; refine (inst23 0 A13 1 c13 _).mono ?_; rintro e w14 ⟨rfl, hb⟩; refine ⟨_, rfl, ?_⟩; have HB_ := Aside0.mk (below_step HB.out hb); clear HB; have HB := HB_; clear HB_; have n_ := Aside0.mk (Kd.C_below HC4.out hb); clear HC4; have HC4 := n_; clear n_; have n_ := Aside0.mk (Kd.C_below HC7.out hb); clear HC7; have HC7 := n_; clear n_; have n_ := Aside0.mk (Kd.C_below HC10.out hb); clear HC10; have HC10 := n_; clear n_; have n_ := Aside0.mk (Kd.C_below HC13.out hb); clear HC13; have HC13 := n_; clear n_; clear hb)
   | ((with_reducible refine gate_dst (N := 16) rfl ?_); (try (refine gate_guard (by rfl) ?_; dsimp only)); refine Kd.R_lit (kG k38 w14) _ 38 ?hg (N := 16) ?hd (xs := awE) (inner := [.int .i64 0, .slice A4 1 c4, .bool true, .int .i64 0, .slice A7 2 c7, .bool false, .int .i64 1, .slice A10 2 c10, .bool false, .int .i64 0, .slice A13 1 c13, .bool false]) (ok := fun _ => True) (okp := fun _ => True) ?hr ?hp (fun _ hk => hk) trivial (Below.refl _ _) (Nat.le_refl _) (show (4 : Nat) ≤ 9223372036854775807 from by decide) ?_; (case hd => rfl); (case hg => rfl); (case hr => first | (go_simp; done) | (go_simp; rfl)); (case hp => exact (repsN_cons (x := (⟨⟨0, [9]⟩, true⟩ : S38)) (cs := [.int .i64 0, .slice A4 1 c4, .bool true]) (k38_mkF _ _ _ HL4.out (F_all (Kd.heap_int _) HC4.out)) rfl (repsN_cons (x := (⟨⟨0, [2, 2]⟩, false⟩ : S38)) (cs := [.int .i64 0, .slice A7 2 c7, .bool false]) (k38_mkF _ _ _ HL7.out (F_all (Kd.heap_int _) HC7.out)) rfl (repsN_cons (x := (⟨⟨1, [3, 1]⟩, false⟩ : S38)) (cs := [.int .i64 1, .slice A10 2 c10, .bool false]) (k38_mkF _ _ _ HL10.out (F_all (Kd.heap_int _) HC10.out)) rfl (repsN_cons (x := (⟨⟨0, [3]⟩, false⟩ : S38)) (cs := [.int .i64 0, .slice A13 1 c13, .bool false]) (k38_mkF _ _ _ HL13.out (F_all (Kd.heap_int _) HC13.out)) rfl (Reps.none _ _)))))); intro v16 w16 ho hb hg_ hnew_; clear hg_ hnew_; have hV := kG_V (b := 0) k38_heap ho hb; obtain ⟨A16, c16, rfl⟩ := Kd.V_slice hV; have HV16 := Aside0.mk hV; clear ho hV HC4 HC7 HC10 HC13; have HB_ := Aside0.mk (below_step HB.out hb); clear HB; have HB := HB_; clear HB_; clear hb)
   | ((with_reducible refine gate_callee (f := 19) rfl ?_); (try (refine gate_guard (by rfl) ?_; dsimp only)); refine goesL_ (some 17) rfl rfl Try.func19 (by kernel_rfl) rfl #[.slice none 0 0, .int .u8 0, .slice A16 4 c16] rfl (by first | rfl | (go_simp; done) | (go_simp; rfl)) ?_; refine (order_Select.calls KK none 0 [] 0 (fun _ => True) A16 c16 awE 1 [3, 1] true _ (Kd.C_nil _ _) (Nat.le_refl _) HV16.out HSEL.out).mono ?_; rintro e w17 ⟨v17, rfl, hv, hb⟩; obtain ⟨A17, c17, rfl⟩ := Kd.V_slice hv; refine ⟨_, rfl, ?_⟩; clear hv HV16; have HB_ := Aside0.mk (below_step HB.out hb); clear HB; have HB := HB_; clear HB_; clear hb)
   | ((with_reducible refine gate_dst (N := 1) rfl ?_); refine box_event ?hg (N := 1) ?hd (cs := #[.int .i64 0, .slice none 0 0]) (t := 32) ?hr ?_; (case hd => rfl); (case hg => rfl); (case hr => first | (go_simp; done) | (go_simp; rfl)); intro g1 hg1 w1 hbox1 hb1; have hcz_0 : w1.cell? ⟨g1, 0, none⟩ = some (.int .i64 0) := (blk_cell hbox1 0).trans rfl; have hcz_1 : w1.cell? ⟨g1, 1, none⟩ = some (.slice none 0 0) := (blk_cell hbox1 1).trans rfl; have hfz_0 := blk_frozen hbox1 0; have hfz_1 := blk_frozen hbox1 1; have BK1 := Aside0.mk (And.intro hg1 (And.intro hbox1 hb1)); clear hg1 hbox1 hb1)
   | ((with_reducible refine gate_dst (N := 27) rfl ?_); (try (refine gate_guard (by rfl) ?_; dsimp only)); refine Kd.R_lit (Kd.int .i64) _ 3 ?hg (N := 27) ?hd (xs := ([3, 1] : List Int)) (inner := [.int .i64 3, .int .i64 1]) (ok := fun _ => True) (okp := fun _ => True) ?hr ?hp (fun _ hk => hk) trivial (Below.refl _ _) (Nat.le_refl _) (by decide) ?_; (case hd => rfl); (case hg => rfl); (case hr => first | (go_simp; done) | (go_simp; rfl)); (case hp => exact (Reps.one (show Kd.M (Kd.int .i64) _ _ _ 3 [.int .i64 3] from rfl) (Reps.one (show Kd.M (Kd.int .i64) _ _ _ 1 [.int .i64 1] from rfl) (Reps.none _ _)))); intro v27 w27 ho hb hg_ hnew_; clear hg_ hnew_; obtain ⟨A27, c27, rfl, hl, hc⟩ := Kd.R_reads ho; have HL27 := Aside0.mk hl; have HC27 := Aside0.mk hc; clear ho hl hc; have le1 : w.heap.size ≤ g1 := Nat.le_trans HB.out.size (Nat.le_of_eq BK1.out.1.symm); have HB_ := Aside0.mk (below_step (below_set (below_set (below_step HB.out BK1.out.2.2) le1) le1) hb); clear le1; clear HB; have HB := HB_; clear HB_; clear hb)
   | ((with_reducible refine gate_callee (f := 23) rfl ?_); (try (refine gate_guard (by rfl) ?_; dsimp only)); refine goesL_ (some 28) rfl rfl Try.func23 (by kernel_rfl) rfl #[.int .i64 0, .slice A27 2 c27] rfl (by first | rfl | (go_simp; done) | (go_simp; rfl)) ?_; refine (inst23 0 A27 2 c27 _).mono ?_; rintro e w28 ⟨rfl, hb⟩; refine ⟨_, rfl, ?_⟩; have HB_ := Aside0.mk (below_step HB.out hb); clear HB; have HB := HB_; clear HB_; have n_ := Aside0.mk (Kd.C_below HC27.out hb); clear HC27; have HC27 := n_; clear n_; clear hb)
   | ((with_reducible refine gate_dst (N := 29) rfl ?_); (try (refine gate_guard (by rfl) ?_; dsimp only)); refine Kd.R_lit (Kd.int .i64) _ 3 ?hg (N := 29) ?hd (xs := ([3] : List Int)) (inner := [.int .i64 3]) (ok := fun _ => True) (okp := fun _ => True) ?hr ?hp (fun _ hk => hk) trivial (Below.refl _ _) (Nat.le_refl _) (by decide) ?_; (case hd => rfl); (case hg => rfl); (case hr => first | (go_simp; done) | (go_simp; rfl)); (case hp => exact (Reps.one (show Kd.M (Kd.int .i64) _ _ _ 3 [.int .i64 3] from rfl) (Reps.none _ _))); intro v29 w29 ho hb hg_ hnew_; clear hg_ hnew_; obtain ⟨A29, c29, rfl, hl, hc⟩ := Kd.R_reads ho; have HL29 := Aside0.mk hl; have HC29 := Aside0.mk hc; clear ho hl hc; have HB_ := Aside0.mk (below_step HB.out hb); clear HB; have HB := HB_; clear HB_; have n_ := Aside0.mk (Kd.C_below HC27.out hb); clear HC27; have HC27 := n_; clear n_; clear hb)
   | ((with_reducible refine gate_callee (f := 23) rfl ?_); (try (refine gate_guard (by rfl) ?_; dsimp only)); refine goesL_ (some 30) rfl rfl Try.func23 (by kernel_rfl) rfl #[.int .i64 0, .slice A29 1 c29] rfl (by first | rfl | (go_simp; done) | (go_simp; rfl)) ?_; refine (inst23 0 A29 1 c29 _).mono ?_; rintro e w30 ⟨rfl, hb⟩; refine ⟨_, rfl, ?_⟩; have HB_ := Aside0.mk (below_step HB.out hb); clear HB; have HB := HB_; clear HB_; have n_ := Aside0.mk (Kd.C_below HC27.out hb); clear HC27; have HC27 := n_; clear n_; have n_ := Aside0.mk (Kd.C_below HC29.out hb); clear HC29; have HC29 := n_; clear n_; clear hb)
   | ((with_reducible refine gate_callee (f := 9) rfl ?_); (try (refine gate_guard (by rfl) ?_; dsimp only)); refine goesL_ (some 31) rfl rfl Try.func9 (by kernel_rfl) rfl #[.slice none 0 0, .int .u8 0, .agg #[.int .i64 0, .slice A27 2 c27], .agg #[.int .i64 0, .slice A29 1 c29]] rfl (by first | rfl | (go_simp; done) | (go_simp; rfl)) ?_; refine (order_Less.calls KK none 0 [] 0 0 A27 c27 [3, 1] 0 A29 c29 [3] _ _ (Kd.C_nil _ _) (Nat.le_refl _) HC27.out HL27.out HC29.out HL29.out HL1.out).mono ?_; rintro e w31 ⟨rfl, hb⟩; refine ⟨_, rfl, ?_⟩; clear HC27 HC29; have HB_ := Aside0.mk (below_step HB.out hb); clear HB; have HB := HB_; clear HB_; clear hb)
   | ((with_reducible refine gate_dst (N := 34) rfl ?_); (try (refine gate_guard (by rfl) ?_; dsimp only)); refine Kd.R_lit (Kd.int .i64) _ 3 ?hg (N := 34) ?hd (xs := ([2, 1] : List Int)) (inner := [.int .i64 2, .int .i64 1]) (ok := fun _ => True) (okp := fun _ => True) ?hr ?hp (fun _ hk => hk) trivial (Below.refl _ _) (Nat.le_refl _) (by decide) ?_; (case hd => rfl); (case hg => rfl); (case hr => first | (go_simp; done) | (go_simp; rfl)); (case hp => exact (Reps.one (show Kd.M (Kd.int .i64) _ _ _ 2 [.int .i64 2] from rfl) (Reps.one (show Kd.M (Kd.int .i64) _ _ _ 1 [.int .i64 1] from rfl) (Reps.none _ _)))); intro v34 w34 ho hb hg_ hnew_; clear hg_ hnew_; obtain ⟨A34, c34, rfl, hl, hc⟩ := Kd.R_reads ho; have HL34 := Aside0.mk hl; have HC34 := Aside0.mk hc; clear ho hl hc; have HB_ := Aside0.mk (below_step HB.out hb); clear HB; have HB := HB_; clear HB_; clear hb)
   | ((with_reducible refine gate_callee (f := 23) rfl ?_); (try (refine gate_guard (by rfl) ?_; dsimp only)); refine goesL_ (some 35) rfl rfl Try.func23 (by kernel_rfl) rfl #[.int .i64 0, .slice A34 2 c34] rfl (by first | rfl | (go_simp; done) | (go_simp; rfl)) ?_; refine (inst23 0 A34 2 c34 _).mono ?_; rintro e w35 ⟨rfl, hb⟩; refine ⟨_, rfl, ?_⟩; have HB_ := Aside0.mk (below_step HB.out hb); clear HB; have HB := HB_; clear HB_; have n_ := Aside0.mk (Kd.C_below HC34.out hb); clear HC34; have HC34 := n_; clear n_; clear hb)
   | ((with_reducible refine gate_dst (N := 36) rfl ?_); (try (refine gate_guard (by rfl) ?_; dsimp only)); refine Kd.R_lit (Kd.int .i64) _ 3 ?hg (N := 36) ?hd (xs := ([1, 9] : List Int)) (inner := [.int .i64 1, .int .i64 9]) (ok := fun _ => True) (okp := fun _ => True) ?hr ?hp (fun _ hk => hk) trivial (Below.refl _ _) (Nat.le_refl _) (by decide) ?_; (case hd => rfl); (case hg => rfl); (case hr => first | (go_simp; done) | (go_simp; rfl)); (case hp => exact (Reps.one (show Kd.M (Kd.int .i64) _ _ _ 1 [.int .i64 1] from rfl) (Reps.one (show Kd.M (Kd.int .i64) _ _ _ 9 [.int .i64 9] from rfl) (Reps.none _ _)))); intro v36 w36 ho hb hg_ hnew_; clear hg_ hnew_; obtain ⟨A36, c36, rfl, hl, hc⟩ := Kd.R_reads ho; have HL36 := Aside0.mk hl; have HC36 := Aside0.mk hc; clear ho hl hc; have HB_ := Aside0.mk (below_step HB.out hb); clear HB; have HB := HB_; clear HB_; have n_ := Aside0.mk (Kd.C_below HC34.out hb); clear HC34; have HC34 := n_; clear n_; clear hb)
   | ((with_reducible refine gate_callee (f := 23) rfl ?_); (try (refine gate_guard (by rfl) ?_; dsimp only)); refine goesL_ (some 37) rfl rfl Try.func23 (by kernel_rfl) rfl #[.int .i64 0, .slice A36 2 c36] rfl (by first | rfl | (go_simp; done) | (go_simp; rfl)) ?_; refine (inst23 0 A36 2 c36 _).mono ?_; rintro e w37 ⟨rfl, hb⟩; refine ⟨_, rfl, ?_⟩; have HB_ := Aside0.mk (below_step HB.out hb); clear HB; have HB := HB_; clear HB_; have n_ := Aside0.mk (Kd.C_below HC34.out hb); clear HC34; have HC34 := n_; clear n_; have n_ := Aside0.mk (Kd.C_below HC36.out hb); clear HC36; have HC36 := n_; clear n_; clear hb)
   | ((with_reducible refine gate_callee (f := 9) rfl ?_); (try (refine gate_guard (by rfl) ?_; dsimp only)); refine goesL_ (some 38) rfl rfl Try.func9 (by kernel_rfl) rfl #[.slice none 0 0, .int .u8 1, .agg #[.int .i64 0, .slice A34 2 c34], .agg #[.int .i64 0, .slice A36 2 c36]] rfl (by first | rfl | (go_simp; done) | (go_simp; rfl)) ?_; refine (order_Less.calls KK none 0 [] 1 0 A34 c34 [2, 1] 0 A36 c36 [1, 9] _ _ (Kd.C_nil _ _) (Nat.le_refl _) HC34.out HL34.out HC36.out HL36.out HL2.out).mono ?_; rintro e w38 ⟨rfl, hb⟩; refine ⟨_, rfl, ?_⟩; clear HC34 HC36; have HB_ := Aside0.mk (below_step HB.out hb); clear HB; have HB := HB_; clear HB_; clear hb)
   | ((with_reducible refine gate_dst (N := 41) rfl ?_); (try (refine gate_guard (by rfl) ?_; dsimp only)); refine Kd.R_lit (Kd.int .i64) _ 3 ?hg (N := 41) ?hd (xs := ([2, 1] : List Int)) (inner := [.int .i64 2, .int .i64 1]) (ok := fun _ => True) (okp := fun _ => True) ?hr ?hp (fun _ hk => hk) trivial (Below.refl _ _) (Nat.le_refl _) (by decide) ?_; (case hd => rfl); (case hg => rfl); (case hr => first | (go_simp; done) | (go_simp; rfl)); (case hp => exact (Reps.one (show Kd.M (Kd.int .i64) _ _ _ 2 [.int .i64 2] from rfl) (Reps.one (show Kd.M (Kd.int .i64) _ _ _ 1 [.int .i64 1] from rfl) (Reps.none _ _)))); intro v41 w41 ho hb hg_ hnew_; clear hg_ hnew_; obtain ⟨A41, c41, rfl, hl, hc⟩ := Kd.R_reads ho; have HL41 := Aside0.mk hl; have HC41 := Aside0.mk hc; clear ho hl hc; have HB_ := Aside0.mk (below_step HB.out hb); clear HB; have HB := HB_; clear HB_; clear hb)
   | ((with_reducible refine gate_callee (f := 23) rfl ?_); (try (refine gate_guard (by rfl) ?_; dsimp only)); refine goesL_ (some 42) rfl rfl Try.func23 (by kernel_rfl) rfl #[.int .i64 0, .slice A41 2 c41] rfl (by first | rfl | (go_simp; done) | (go_simp; rfl)) ?_; refine (inst23 0 A41 2 c41 _).mono ?_; rintro e w42 ⟨rfl, hb⟩; refine ⟨_, rfl, ?_⟩; have HB_ := Aside0.mk (below_step HB.out hb); clear HB; have HB := HB_; clear HB_; have n_ := Aside0.mk (Kd.C_below HC41.out hb); clear HC41; have HC41 := n_; clear n_; clear hb)
   | ((with_reducible refine gate_dst (N := 43) rfl ?_); (try (refine gate_guard (by rfl) ?_; dsimp only)); refine Kd.R_lit (Kd.int .i64) _ 3 ?hg (N := 43) ?hd (xs := ([1, 9] : List Int)) (inner := [.int .i64 1, .int .i64 9]) (ok := fun _ => True) (okp := fun _ => True) ?hr ?hp (fun _ hk => hk) trivial (Below.refl _ _) (Nat.le_refl _) (by decide) ?_; (case hd => rfl); (case hg => rfl); (case hr => first | (go_simp; done) | (go_simp; rfl)); (case hp => exact (Reps.one (show Kd.M (Kd.int .i64) _ _ _ 1 [.int .i64 1] from rfl) (Reps.one (show Kd.M (Kd.int .i64) _ _ _ 9 [.int .i64 9] from rfl) (Reps.none _ _)))); intro v43 w43 ho hb hg_ hnew_; clear hg_ hnew_; obtain ⟨A43, c43, rfl, hl, hc⟩ := Kd.R_reads ho; have HL43 := Aside0.mk hl; have HC43 := Aside0.mk hc; clear ho hl hc; have HB_ := Aside0.mk (below_step HB.out hb); clear HB; have HB := HB_; clear HB_; have n_ := Aside0.mk (Kd.C_below HC41.out hb); clear HC41; have HC41 := n_; clear n_; clear hb)
   | ((with_reducible refine gate_callee (f := 23) rfl ?_); (try (refine gate_guard (by rfl) ?_; dsimp only)); refine goesL_ (some 44) rfl rfl Try.func23 (by kernel_rfl) rfl #[.int .i64 0, .slice A43 2 c43] rfl (by first | rfl | (go_simp; done) | (go_simp; rfl)) ?_; refine (inst23 0 A43 2 c43 _).mono ?_; rintro e w44 ⟨rfl, hb⟩; refine ⟨_, rfl, ?_⟩; have HB_ := Aside0.mk (below_step HB.out hb); clear HB; have HB := HB_; clear HB_; have n_ := Aside0.mk (Kd.C_below HC41.out hb); clear HC41; have HC41 := n_; clear n_; have n_ := Aside0.mk (Kd.C_below HC43.out hb); clear HC43; have HC43 := n_; clear n_; clear hb)
   | ((with_reducible refine gate_callee (f := 9) rfl ?_); (try (refine gate_guard (by rfl) ?_; dsimp only)); refine goesL_ (some 45) rfl rfl Try.func9 (by kernel_rfl) rfl #[.slice none 0 0, .int .u8 0, .agg #[.int .i64 0, .slice A41 2 c41], .agg #[.int .i64 0, .slice A43 2 c43]] rfl (by first | rfl | (go_simp; done) | (go_simp; rfl)) ?_; refine (order_Less.calls KK none 0 [] 0 0 A41 c41 [2, 1] 0 A43 c43 [1, 9] _ _ (Kd.C_nil _ _) (Nat.le_refl _) HC41.out HL41.out HC43.out HL43.out HL3.out).mono ?_; rintro e w45 ⟨rfl, hb⟩; refine ⟨_, rfl, ?_⟩; clear HC41 HC43; have HB_ := Aside0.mk (below_step HB.out hb); clear HB; have HB := HB_; clear HB_; clear hb)
   | ((with_reducible refine gate_dst (N := 51) rfl ?_); (try (refine gate_guard (by rfl) ?_; dsimp only)); refine Kd.R_lit (Kd.int .i64) _ 3 ?hg (N := 51) ?hd (xs := ([1, 0, 3] : List Int)) (inner := [.int .i64 1, .int .i64 0, .int .i64 3]) (ok := fun _ => True) (okp := fun _ => True) ?hr ?hp (fun _ hk => hk) trivial (Below.refl _ _) (Nat.le_refl _) (by decide) ?_; (case hd => rfl); (case hg => rfl); (case hr => first | (go_simp; done) | (go_simp; rfl)); (case hp => exact (Reps.one (show Kd.M (Kd.int .i64) _ _ _ 1 [.int .i64 1] from rfl) (Reps.one (show Kd.M (Kd.int .i64) _ _ _ 0 [.int .i64 0] from rfl) (Reps.one (show Kd.M (Kd.int .i64) _ _ _ 3 [.int .i64 3] from rfl) (Reps.none _ _))))); intro v51 w51 ho hb hg_ hnew_; clear hg_ hnew_; obtain ⟨A51, c51, rfl, hl, hc⟩ := Kd.R_reads ho; have HL51 := Aside0.mk hl; have HC51 := Aside0.mk hc; clear ho hl hc; have HB_ := Aside0.mk (below_step HB.out hb); clear HB; have HB := HB_; clear HB_; clear hb)
   | ((with_reducible refine gate_callee (f := 15) rfl ?_); (try (refine gate_guard (by rfl) ?_; dsimp only)); refine goesL_ (some 52) rfl rfl Try.func15 (by kernel_rfl) rfl #[.slice A51 3 c51] rfl (by first | rfl | (go_simp; done) | (go_simp; rfl)) ?_; refine (order_Recency.calls A51 c51 [1, 0, 3] [3, 1] _ HC51.out HL51.out HREC.out).mono ?_; rintro e w52 ⟨v52, rfl, ho, hb⟩; refine ⟨_, rfl, ?_⟩; obtain ⟨A52, c52, rfl, hl, hc⟩ := Kd.R_reads ho; have HL52 := Aside0.mk hl; have HC52 := Aside0.mk hc; clear ho hl hc HC51; have HB_ := Aside0.mk (below_step HB.out hb); clear HB; have HB := HB_; clear HB_; clear hb)
   | ((with_reducible refine gate_dst (N := 53) rfl ?_); (try (refine gate_guard (by rfl) ?_; dsimp only)); refine Kd.R_lit (Kd.int .i64) _ 3 ?hg (N := 53) ?hd (xs := ([3, 1] : List Int)) (inner := [.int .i64 3, .int .i64 1]) (ok := fun _ => True) (okp := fun _ => True) ?hr ?hp (fun _ hk => hk) trivial (Below.refl _ _) (Nat.le_refl _) (by decide) ?_; (case hd => rfl); (case hg => rfl); (case hr => first | (go_simp; done) | (go_simp; rfl)); (case hp => exact (Reps.one (show Kd.M (Kd.int .i64) _ _ _ 3 [.int .i64 3] from rfl) (Reps.one (show Kd.M (Kd.int .i64) _ _ _ 1 [.int .i64 1] from rfl) (Reps.none _ _)))); intro v53 w53 ho hb hg_ hnew_; clear hg_ hnew_; obtain ⟨A53, c53, rfl, hl, hc⟩ := Kd.R_reads ho; have HL53 := Aside0.mk hl; have HC53 := Aside0.mk hc; clear ho hl hc; have HB_ := Aside0.mk (below_step HB.out hb); clear HB; have HB := HB_; clear HB_; have n_ := Aside0.mk (Kd.C_below HC52.out hb); clear HC52; have HC52 := n_; clear n_; clear hb)
   | ((with_reducible refine gate_callee (f := 14) rfl ?_); (try (refine gate_guard (by rfl) ?_; dsimp only)); refine goesL_ (some 54) rfl rfl Try.func14 (by kernel_rfl) rfl #[.slice A52 2 c52, .slice A53 2 c53] rfl (by first | rfl | (go_simp; done) | (go_simp; rfl)) ?_; refine (intarsiaref21_SameInts.calls KK A52 c52 [3, 1] A53 c53 [3, 1] true _ HC52.out HL52.out HC53.out HL53.out HSAME.out).mono ?_; rintro e w54 ⟨rfl, hd⟩; refine ⟨_, rfl, ?_⟩; have hb := drawn_below hd; clear hd HC52 HC53; have HB_ := Aside0.mk (below_step HB.out hb); clear HB; have HB := HB_; clear HB_; clear hb)
   | ((with_reducible refine gate_dst (N := 57) rfl ?_); (try (refine gate_guard (by rfl) ?_; dsimp only)); refine Kd.R_lit (Kd.int .i64) _ 3 ?hg (N := 57) ?hd (xs := ([1] : List Int)) (inner := [.int .i64 1]) (ok := fun _ => True) (okp := fun _ => True) ?hr ?hp (fun _ hk => hk) trivial (Below.refl _ _) (Nat.le_refl _) (by decide) ?_; (case hd => rfl); (case hg => rfl); (case hr => first | (go_simp; done) | (go_simp; rfl)); (case hp => exact (Reps.one (show Kd.M (Kd.int .i64) _ _ _ 1 [.int .i64 1] from rfl) (Reps.none _ _))); intro v57 w57 ho hb hg_ hnew_; clear hg_ hnew_; obtain ⟨A57, c57, rfl, hl, hc⟩ := Kd.R_reads ho; have HL57 := Aside0.mk hl; have HC57 := Aside0.mk hc; clear ho hl hc; have HB_ := Aside0.mk (below_step HB.out hb); clear HB; have HB := HB_; clear HB_; clear hb)
   | ((with_reducible refine gate_callee (f := 23) rfl ?_); (try (refine gate_guard (by rfl) ?_; dsimp only)); refine goesL_ (some 58) rfl rfl Try.func23 (by kernel_rfl) rfl #[.int .i64 0, .slice A57 1 c57] rfl (by first | rfl | (go_simp; done) | (go_simp; rfl)) ?_; refine (inst23 0 A57 1 c57 _).mono ?_; rintro e w58 ⟨rfl, hb⟩; refine ⟨_, rfl, ?_⟩; have HB_ := Aside0.mk (below_step HB.out hb); clear HB; have HB := HB_; clear HB_; have n_ := Aside0.mk (Kd.C_below HC57.out hb); clear HC57; have HC57 := n_; clear n_; clear hb)
   | ((with_reducible refine gate_dst (N := 59) rfl ?_); (try (refine gate_guard (by rfl) ?_; dsimp only)); refine Kd.R_lit (kG k32 w58) _ 32 ?hg (N := 59) ?hd (xs := ([⟨0, [1]⟩] : List S32)) (inner := [.int .i64 0, .slice A57 1 c57]) (ok := fun _ => True) (okp := fun _ => True) ?hr ?hp (fun _ hk => hk) trivial (Below.refl _ _) (Nat.le_refl _) (by decide) ?_; (case hd => rfl); (case hg => rfl); (case hr => first | (go_simp; done) | (go_simp; rfl)); (case hp => exact (repsN_cons (x := (⟨0, [1]⟩ : S32)) (cs := [.int .i64 0, .slice A57 1 c57]) (k32_mkF _ _ _ HL57.out (F_all (Kd.heap_int _) HC57.out)) rfl (Reps.none _ _))); intro v59 w59 ho hb hg_ hnew_; clear hg_ hnew_; have hV := kG_V (b := 0) k32_heap ho hb; obtain ⟨A59, c59, rfl⟩ := Kd.V_slice hV; have HV59 := Aside0.mk hV; clear ho hV HC57; have HB_ := Aside0.mk (below_step HB.out hb); clear HB; have HB := HB_; clear HB_; clear hb)
   | ((with_reducible refine gate_callee (f := 12) rfl ?_); (try (refine gate_guard (by rfl) ?_; dsimp only)); refine goesL_ (some 60) rfl rfl Try.func12 (by kernel_rfl) rfl #[.slice none 0 0, .int .u8 0, .slice A59 1 c59] rfl (by first | rfl | (go_simp; done) | (go_simp; rfl)) ?_; refine (order_Sort.calls KK none 0 [] 0 (fun _ => True) A59 c59 [⟨0, [1]⟩] [⟨0, [1]⟩] _ (Kd.C_nil _ _) (Nat.le_refl _) HV59.out HSRT.out).mono ?_; rintro e w60 ⟨v60, rfl, hv, hb⟩; obtain ⟨A60, c60, rfl⟩ := Kd.V_slice hv; refine ⟨_, rfl, ?_⟩; clear hv HV59; have HB_ := Aside0.mk (below_step HB.out hb); clear HB; have HB := HB_; clear HB_; clear hb))
  go_ret
  exact ⟨rfl, HB.out⟩
def intarsialaw26_awake.f : Option Bool := some true
theorem awake_rounds : ∃ KK, order_Select.f KK [] 0 awE = some (1, [3, 1], true) ∧ order_Less.f KK [] 0 0 [3, 1] 0 [3] = some true ∧ order_Less.f KK [] 1 0 [2, 1] 0 [1, 9] = some true ∧ order_Less.f KK [] 0 0 [2, 1] 0 [1, 9] = some false ∧
    order_Recency.f [1, 0, 3] = some [3, 1] ∧ intarsiaref21_SameInts.f KK [3, 1] [3, 1] = some true ∧ order_Sort.f KK [] 0 [⟨0, [1]⟩] = some [⟨0, [1]⟩] := by
  obtain ⟨K1, h1⟩ := select_o_val [] okNil 0 awE (by unfold okEntries; decide) (by decide)
  obtain ⟨K2, h2⟩ := less_o_val [] okNil 0 ⟨0, [3, 1]⟩ ⟨0, [3]⟩ (by decide) (by decide)
  obtain ⟨K3, h3⟩ := less_o_val [] okNil 1 ⟨0, [2, 1]⟩ ⟨0, [1, 9]⟩ (by decide) (by decide)
  obtain ⟨K4, h4⟩ := less_o_val [] okNil 0 ⟨0, [2, 1]⟩ ⟨0, [1, 9]⟩ (by decide) (by decide)
  obtain ⟨K6, h6⟩ := same_val [3, 1] [3, 1] (by decide)
  obtain ⟨K7, h7⟩ := sort_o_val [] okNil 0 [⟨0, [1]⟩] (by unfold okInsts; decide) (by decide)
  refine ⟨K1 + K2 + K3 + K4 + K6 + K7, ?_, ?_, ?_, ?_, ?_, ?_, ?_⟩
  · rw [← aw_sel]; exact h1 _ (by omega)
  · rw [← aw_less1]; exact h2 _ (by omega)
  · rw [← aw_less2]; exact h3 _ (by omega)
  · rw [← aw_less3]; exact h4 _ (by omega)
  · rw [order_Recency.f, if_pos (by decide), rc103]
  · exact h6 _ (by omega)
  · exact h7 _ (by omega)
theorem intarsialaw26_awake.calls (r : Bool) (w : World) (h : intarsialaw26_awake.f = some r) : Calls Try.prog 8 #[] w fun e w' => e = .returned (.bool r) ∧ Below w.heap.size w w' := by
  obtain rfl := Option.some.inj h
  obtain ⟨KK, h1, h2, h3, h4, h5, h6, h7⟩ := awake_rounds
  exact awake8 KK w h1 h2 h3 h4 h5 h6 h7
end Go.Proofs.Ytjkdfjkaeoklmaa.Q
