import Derived.Test.YtjkdfjkaeoklmaaX2
import Derived.Test.YtjkdfjkaeoklmaaX3
import Derived.Test.YtjkdfjkaeoklmaaX5
import Derived.Test.YtjkdfjkaeoklmaaX6
import Derived.Test.YtjkdfjkaeoklmaaX4
import Derived.Test.YtjkdfjkaeoklmaaX7
import Derived.Deep.Slices
import Derived.ChangeArms
import Derived.ChangeOld
set_option linter.unusedVariables false
set_option linter.unusedSimpArgs false
namespace Go.Proofs.Ytjkdfjkaeoklmaa.Q
open Go.RowKit Go.Proofs.YtjkdfjkaeoklmaaW.PrintWords
set_option linter.unusedVariables false
/-- With rounds enough there is an answer, and it is as asked. -/
def TotQ {β : Type} (Q : β → Prop) (g : Nat → Option β) : Prop := ∃ b, Ev g b ∧ Q b
section
variable {α β : Type} {Q : β → Prop}
theorem TotQ.some {b : β} (h : Q b) : TotQ Q (fun _ => some b) := ⟨b, Ev.now b, h⟩
theorem TotQ.ite {c : Prop} [Decidable c] {f g : Nat → Option β} (hf : c → TotQ Q f) (hg : ¬c → TotQ Q g) : TotQ Q (fun k => if c then f k else g k) := by
  by_cases h : c
  · obtain ⟨b, e, q⟩ := hf h
    exact ⟨b, e.congr (fun k => if_pos h), q⟩
  · obtain ⟨b, e, q⟩ := hg h
    exact ⟨b, e.congr (fun k => if_neg h), q⟩
theorem TotQ.step {g f : Nat → Option β} (h : ∀ k, g (k + 1) = f k) (hf : TotQ Q f) : TotQ Q g := by
  obtain ⟨b, e, q⟩ := hf
  exact ⟨b, Ev.step h e, q⟩
theorem TotQ.congr {g f : Nat → Option β} (h : ∀ k, g k = f k) (hf : TotQ Q f) : TotQ Q g := by
  obtain ⟨b, e, q⟩ := hf
  exact ⟨b, Ev.congr h e, q⟩
theorem TotQ.bind {R : α → Prop} {g : Nat → Option α} {f : Nat → α → Option β} (h : TotQ R g) (k : ∀ a, R a → TotQ Q (fun n => f n a)) : TotQ Q (fun n => (g n).bind (f n)) := by
  obtain ⟨a, e, r⟩ := h
  obtain ⟨b, e2, q⟩ := k a r
  exact ⟨b, Ev.bind e e2, q⟩
theorem TotQ.bindE {a : α} {g : Nat → Option α} {f : Nat → α → Option β} (h : Ev g a) (k : TotQ Q (fun n => f n a)) : TotQ Q (fun n => (g n).bind (f n)) := by
  obtain ⟨b, e2, q⟩ := k
  exact ⟨b, Ev.bind h e2, q⟩
theorem TotQ.imp {Q' : β → Prop} {g : Nat → Option β} (h : TotQ Q g) (hq : ∀ b, Q b → Q' b) : TotQ Q' g := by
  obtain ⟨b, e, q⟩ := h
  exact ⟨b, e, hq b q⟩
theorem TotQ.rounds {g : Nat → Option Bool} (h : TotQ (fun b => b = true) g) : ∃ k, g k = Option.some true := by
  obtain ⟨b, e, rfl⟩ := h
  exact e.rounds
/-- A loop that counts up. -/
theorem TotQ.loop {g : Nat → Int → Option β} (len : Nat) (stop : TotQ Q (fun k => g k (len : Int))) (round : ∀ i : Nat, i < len → TotQ Q (fun k => g k ((i + 1 : Nat) : Int)) → TotQ Q (fun k => g k (i : Int))) :
    ∀ i : Nat, i ≤ len → TotQ Q (fun k => g k (i : Int)) := by
  intro i hi
  obtain ⟨n, hn⟩ : ∃ n, n = len - i := ⟨_, rfl⟩
  induction n generalizing i with
  | zero =>
    obtain rfl : i = len := by omega
    exact stop
  | succ n ih => exact round i (by omega) (ih (i + 1) (by omega) (by omega))
end
theorem wrap_next {i n : Nat} (h : i < n) (hn : n ≤ 9223372036854775807) : wrap64 ((i : Int) + 1) = ((i + 1 : Nat) : Int) := by
  rw [Int.natCast_add]
  unfold wrap64
  omega
end Go.Proofs.Ytjkdfjkaeoklmaa.Q
namespace Go.Proofs.Ytjkdfjkaeoklmaa.Q
open Go.RowKit Go.Proofs.YtjkdfjkaeoklmaaW.PrintWords
set_option linter.unusedVariables false
/-- It ends. -/
abbrev Tot {β : Type} (g : Nat → Option β) : Prop := TotQ (fun _ => True) g
theorem lightItems_tot (l : List S114) : Tot (fun k => intarsiaref15_lightItems.f k l) := by
  unfold intarsiaref15_lightItems.f
  refine TotQ.ite (fun _ => TotQ.some trivial) (fun h0 => ?_)
  refine TotQ.loop (g := fun k x => intarsiaref15_lightItems.l0 k l x) l.length (TotQ.step (fun k => by simp only [intarsiaref15_lightItems.l0]; rw [if_neg (by omega)]; try rfl) (TotQ.some trivial)) (fun i hi ih => ?_) 0 (Nat.zero_le _)
  refine TotQ.step (fun k => by simp only [intarsiaref15_lightItems.l0]; rfl) ?_
  repeat' first
      | exact TotQ.some trivial
      | (with_reducible refine TotQ.ite (fun _ => ?_) (fun _ => ?_))
      | (rw [wrap_next hi (by omega)]; exact ih)
      | (exfalso; omega)
      | assumption
theorem lightTests_tot (a : ByteArray) (l : List S110) (m : List S112) (hl : l.length ≤ 9223372036854775807) (hm : m.length ≤ 9223372036854775807) : Tot (fun k => intarsiaref15_lightTests.f k a l m) := by
  unfold intarsiaref15_lightTests.f
  have h1 : ∀ i : Nat, i ≤ m.length → Tot (fun k => intarsiaref15_lightTests.l1 k (i : Int) a l m) := by
    refine TotQ.loop (g := fun k x => intarsiaref15_lightTests.l1 k x a l m) m.length (TotQ.step (fun k => by simp only [intarsiaref15_lightTests.l1]; rw [if_neg (by omega)]; try rfl) (TotQ.some trivial)) (fun i hi ih => ?_)
    refine TotQ.step (fun k => by simp only [intarsiaref15_lightTests.l1]; rfl) ?_
    repeat' first
      | exact TotQ.some trivial
      | (with_reducible refine TotQ.ite (fun _ => ?_) (fun _ => ?_))
      | (rw [wrap_next hi (by omega)]; exact ih)
      | (exfalso; omega)
      | assumption
  refine TotQ.loop (g := fun k x => intarsiaref15_lightTests.l0 k x a l m) l.length (TotQ.step (fun k => by simp only [intarsiaref15_lightTests.l0]; rw [if_neg (by omega)]; try rfl) (h1 0 (Nat.zero_le _))) (fun i hi ih => ?_) 0 (Nat.zero_le _)
  refine TotQ.step (fun k => by simp only [intarsiaref15_lightTests.l0]; rfl) ?_
  repeat' first
      | exact TotQ.some trivial
      | (with_reducible refine TotQ.ite (fun _ => ?_) (fun _ => ?_))
      | (rw [wrap_next hi (by omega)]; exact ih)
      | (exfalso; omega)
      | assumption
theorem lightRule_tot (a : ByteArray) (l : List S65) (m : List S89) : Tot (fun k => intarsiaref15_lightRule.f k a l m) := by
  have h2 : m.length ≤ 12 → ∀ i : Nat, i ≤ m.length → Tot (fun k => intarsiaref15_lightRule.l2 k (i : Int) a l m) := by
    intro hm
    refine TotQ.loop (g := fun k x => intarsiaref15_lightRule.l2 k x a l m) m.length (TotQ.step (fun k => by simp only [intarsiaref15_lightRule.l2]; rw [if_neg (by omega)]; try rfl) (TotQ.some trivial)) (fun i hi ih => ?_)
    have h4 : ∀ (y0 : Int) (y1 : ByteArray) (y2 : Int) (y3 : ByteArray) (y4 : List S92) (y5 : List (List S114)), y5.length ≤ 12 → ∀ j : Nat, j ≤ y5.length → Tot (fun k => intarsiaref15_lightRule.l4 k (i : Int) (j : Int) a l m y0 y1 y2 y3 y4 y5) := by
      intro y0 y1 y2 y3 y4 y5 h5
      refine TotQ.loop (g := fun k x => intarsiaref15_lightRule.l4 k (i : Int) x a l m y0 y1 y2 y3 y4 y5) y5.length (TotQ.step (fun k => by simp only [intarsiaref15_lightRule.l4]; rw [if_neg (by omega), wrap_next hi (by omega)]; try rfl) ih) (fun i hi ih => ?_)
      refine TotQ.step (fun k => by simp only [intarsiaref15_lightRule.l4]; rfl) ?_
      repeat' first
        | exact TotQ.some trivial
        | (with_reducible refine TotQ.ite (fun _ => ?_) (fun _ => ?_))
        | (with_reducible refine TotQ.bind (lightItems_tot _) (fun _ _ => ?_))
        | (rw [wrap_next hi (by omega)]; exact ih)
        | (exfalso; omega)
        | assumption
    have h3 : ∀ (y0 : Int) (y1 : ByteArray) (y2 : Int) (y3 : ByteArray) (y4 : List S92) (y5 : List (List S114)), y4.length ≤ 10 → y5.length ≤ 12 → ∀ j : Nat, j ≤ y4.length → Tot (fun k => intarsiaref15_lightRule.l3 k (i : Int) (j : Int) a l m y0 y1 y2 y3 y4 y5) := by
      intro y0 y1 y2 y3 y4 y5 h4' h5
      refine TotQ.loop (g := fun k x => intarsiaref15_lightRule.l3 k (i : Int) x a l m y0 y1 y2 y3 y4 y5) y4.length (TotQ.step (fun k => by simp only [intarsiaref15_lightRule.l3]; rw [if_neg (by omega)]; try rfl) (h4 y0 y1 y2 y3 y4 y5 h5 0 (Nat.zero_le _))) (fun i hi ih => ?_)
      refine TotQ.step (fun k => by simp only [intarsiaref15_lightRule.l3]; rfl) ?_
      repeat' first
        | exact TotQ.some trivial
        | (with_reducible refine TotQ.ite (fun _ => ?_) (fun _ => ?_))
        | (with_reducible refine TotQ.bind (lightItems_tot _) (fun _ _ => ?_))
        | (rw [wrap_next hi (by omega)]; exact ih)
        | (exfalso; omega)
        | assumption
    have h6 : ∀ (b : Bool) (y0 : Int) (y1 : ByteArray) (y2 : Int) (y3 : ByteArray) (y4 : List S92) (y5 : List (List S114)), (b = false → y4.length ≤ 10 ∧ y5.length ≤ 12) → Tot (fun k => intarsiaref15_lightRule.j5 k (i : Int) b a l m y0 y1 y2 y3 y4 y5) := by
      intro b y0 y1 y2 y3 y4 y5 hb
      refine TotQ.step (fun k => by simp only [intarsiaref15_lightRule.j5]; rfl) ?_
      refine TotQ.ite (fun _ => TotQ.some trivial) (fun h => ?_)
      obtain ⟨h7, h8⟩ := hb (by simpa using h)
      exact h3 _ _ _ _ _ _ h7 h8 0 (Nat.zero_le _)
    refine TotQ.step (fun k => by simp only [intarsiaref15_lightRule.l2]; rfl) ?_
    refine TotQ.ite (fun _ => ?_) (fun _ => TotQ.some trivial)
    refine TotQ.ite (fun _ => ?_) (fun _ => by exfalso; omega)
    refine TotQ.ite (fun _ => h6 _ _ _ _ _ _ _ (by simp)) (fun g1 => ?_)
    refine TotQ.ite (fun _ => h6 _ _ _ _ _ _ _ (by simp)) (fun g2 => ?_)
    refine TotQ.ite (fun _ => h6 _ _ _ _ _ _ _ (by simp)) (fun g3 => ?_)
    exact h6 _ _ _ _ _ _ _ (fun _ => ⟨by omega, by omega⟩)
  have h0 : l.length ≤ 8 → m.length ≤ 12 → ∀ i : Nat, i ≤ l.length → Tot (fun k => intarsiaref15_lightRule.l0 k (i : Int) a l m) := by
    intro hl hm
    refine TotQ.loop (g := fun k x => intarsiaref15_lightRule.l0 k x a l m) l.length (TotQ.step (fun k => by simp only [intarsiaref15_lightRule.l0]; rw [if_neg (by omega)]; try rfl) (h2 hm 0 (Nat.zero_le _))) (fun i hi ih => ?_)
    have h1 : ∀ (y : List S84), y.length ≤ 10 → ∀ j : Nat, j ≤ y.length → Tot (fun k => intarsiaref15_lightRule.l1 k (i : Int) y (j : Int) a l m) := by
      intro y hy
      refine TotQ.loop (g := fun k x => intarsiaref15_lightRule.l1 k (i : Int) y x a l m) y.length (TotQ.step (fun k => by simp only [intarsiaref15_lightRule.l1]; rw [if_neg (by omega), wrap_next hi (by omega)]; try rfl) ih) (fun i hi ih => ?_)
      refine TotQ.step (fun k => by simp only [intarsiaref15_lightRule.l1]; rfl) ?_
      repeat' first
        | exact TotQ.some trivial
        | (with_reducible refine TotQ.ite (fun _ => ?_) (fun _ => ?_))
        | (with_reducible refine TotQ.bind (lightTests_tot _ _ _ (by omega) (by omega)) (fun _ _ => ?_))
        | (rw [wrap_next hi (by omega)]; exact ih)
        | (exfalso; omega)
        | assumption
    have h6 : ∀ (b : Bool) (y : List S84), (b = false → y.length ≤ 10) → Tot (fun k => intarsiaref15_lightRule.j2 k (i : Int) y b a l m) := by
      intro b y hb
      refine TotQ.step (fun k => by simp only [intarsiaref15_lightRule.j2]; rfl) ?_
      exact TotQ.ite (fun _ => TotQ.some trivial) (fun h => h1 _ (hb (by simpa using h)) 0 (Nat.zero_le _))
    refine TotQ.step (fun k => by simp only [intarsiaref15_lightRule.l0]; rfl) ?_
    refine TotQ.ite (fun _ => ?_) (fun _ => h2 hm 0 (Nat.zero_le _))
    refine TotQ.ite (fun _ => ?_) (fun _ => by exfalso; omega)
    refine TotQ.ite (fun _ => h6 _ _ (by simp)) (fun g1 => ?_)
    exact h6 _ _ (fun _ => by omega)
  have hj : ∀ b : Bool, (b = false → l.length ≤ 8 ∧ m.length ≤ 12) → Tot (fun k => intarsiaref15_lightRule.j0 k b a l m) := by
    intro b hb
    refine TotQ.step (fun k => by simp only [intarsiaref15_lightRule.j0]; rfl) ?_
    refine TotQ.ite (fun _ => TotQ.some trivial) (fun h => ?_)
    obtain ⟨h7, h8⟩ := hb (by simpa using h)
    exact h0 h7 h8 0 (Nat.zero_le _)
  unfold intarsiaref15_lightRule.f
  refine TotQ.ite (fun _ => hj _ (by simp)) (fun g1 => ?_)
  refine TotQ.ite (fun _ => hj _ (by simp)) (fun g2 => ?_)
  exact hj _ (fun _ => ⟨by omega, by omega⟩)
theorem light_tot (l : List S70) (m : List S45) : Tot (fun k => intarsiaref15_Light.f k l m) := by
  have h2 : m.length ≤ 6 → ∀ i : Nat, i ≤ m.length → Tot (fun k => intarsiaref15_Light.l2 k (i : Int) l m) := by
    intro hm
    refine TotQ.loop (g := fun k x => intarsiaref15_Light.l2 k x l m) m.length (TotQ.step (fun k => by simp only [intarsiaref15_Light.l2]; rw [if_neg (by omega)]; try rfl) (TotQ.some trivial)) (fun i hi ih => ?_)
    refine TotQ.step (fun k => by simp only [intarsiaref15_Light.l2]; rfl) ?_
    repeat' first
      | exact TotQ.some trivial
      | (with_reducible refine TotQ.ite (fun _ => ?_) (fun _ => ?_))
      | (with_reducible refine TotQ.bind (lightRule_tot _ _ _) (fun _ _ => ?_))
      | (rw [wrap_next hi (by omega)]; exact ih)
      | (exfalso; omega)
      | assumption
  have h0 : l.length ≤ 20 → m.length ≤ 6 → ∀ i : Nat, i ≤ l.length → Tot (fun k => intarsiaref15_Light.l0 k (i : Int) l m) := by
    intro hl hm
    refine TotQ.loop (g := fun k x => intarsiaref15_Light.l0 k x l m) l.length (TotQ.step (fun k => by simp only [intarsiaref15_Light.l0]; rw [if_neg (by omega)]; try rfl) (h2 hm 0 (Nat.zero_le _))) (fun i hi ih => ?_)
    have h1 : ∀ (z : ByteArray) (y : List ByteArray), y.length ≤ 10 → ∀ j : Nat, j ≤ y.length → Tot (fun k => intarsiaref15_Light.l1 k (i : Int) (j : Int) l m z y) := by
      intro z y hy
      refine TotQ.loop (g := fun k x => intarsiaref15_Light.l1 k (i : Int) x l m z y) y.length (TotQ.step (fun k => by simp only [intarsiaref15_Light.l1]; rw [if_neg (by omega), wrap_next hi (by omega)]; try rfl) ih) (fun i hi ih => ?_)
      refine TotQ.step (fun k => by simp only [intarsiaref15_Light.l1]; rfl) ?_
      repeat' first
        | exact TotQ.some trivial
        | (with_reducible refine TotQ.ite (fun _ => ?_) (fun _ => ?_))
        | (rw [wrap_next hi (by omega)]; exact ih)
        | (exfalso; omega)
        | assumption
    have h6 : ∀ (b : Bool) (z : ByteArray) (y : List ByteArray), (b = false → y.length ≤ 10) → Tot (fun k => intarsiaref15_Light.j2 k (i : Int) b l m z y) := by
      intro b z y hb
      refine TotQ.step (fun k => by simp only [intarsiaref15_Light.j2]; rfl) ?_
      exact TotQ.ite (fun _ => TotQ.some trivial) (fun h => h1 _ _ (hb (by simpa using h)) 0 (Nat.zero_le _))
    refine TotQ.step (fun k => by simp only [intarsiaref15_Light.l0]; rfl) ?_
    refine TotQ.ite (fun _ => ?_) (fun _ => h2 hm 0 (Nat.zero_le _))
    refine TotQ.ite (fun _ => ?_) (fun _ => by exfalso; omega)
    refine TotQ.ite (fun _ => h6 _ _ _ (by simp)) (fun g1 => ?_)
    exact h6 _ _ _ (fun h => by have := of_decide_eq_false h; omega)
  have hj : ∀ b : Bool, (b = false → l.length ≤ 20 ∧ m.length ≤ 6) → Tot (fun k => intarsiaref15_Light.j0 k b l m) := by
    intro b hb
    refine TotQ.step (fun k => by simp only [intarsiaref15_Light.j0]; rfl) ?_
    refine TotQ.ite (fun _ => TotQ.some trivial) (fun h => ?_)
    obtain ⟨h7, h8⟩ := hb (by simpa using h)
    exact h0 h7 h8 0 (Nat.zero_le _)
  unfold intarsiaref15_Light.f
  refine TotQ.ite (fun _ => hj _ (by simp)) (fun g1 => ?_)
  exact hj _ (fun h => ⟨by omega, by have := of_decide_eq_false h; omega⟩)
end Go.Proofs.Ytjkdfjkaeoklmaa.Q
namespace Go.Proofs.Ytjkdfjkaeoklmaa.Q
open Go.RowKit Go.Proofs.YtjkdfjkaeoklmaaW.PrintWords
set_option linter.unusedVariables false
set_option linter.unusedSimpArgs false
/-- What a yes of 'light' tells. -/
def Few (l : List S32) (b : Bool) : Prop := b = true → l.length ≤ 20 ∧ okInsts l
theorem few_no (l : List S32) : Few l false := fun h => by cases h
theorem light26_tot (l0 : List S70) (l1 : List S45) (l : List S32) : TotQ (Few l) (fun k => intarsialaw26_light.f k l0 l1 l) := by
  have h0 : l.length ≤ 20 → ∀ i : Nat, i ≤ l.length → (∀ (j : Nat) x, j < i → l[j]? = some x → x.f1.length ≤ 8) → TotQ (Few l) (fun k => intarsialaw26_light.l0 k l (i : Int)) := by
    intro hl i hi
    obtain ⟨n, hn⟩ : ∃ n, n = l.length - i := ⟨_, rfl⟩
    induction n generalizing i with
    | zero =>
      intro hx
      obtain rfl : i = l.length := by omega
      refine TotQ.step (fun k => by simp only [intarsialaw26_light.l0]; rw [if_neg (by omega)]) (TotQ.some fun _ => ⟨hl, fun x hx' => ?_⟩)
      obtain ⟨j, hj, rfl⟩ := List.mem_iff_getElem.1 hx'
      have := hx j _ hj (List.getElem?_eq_getElem hj)
      omega
    | succ n ih =>
      intro hx
      have hlt : i < l.length := by omega
      refine TotQ.step (fun k => by simp only [intarsialaw26_light.l0]; rw [if_pos (by omega), if_pos (by omega), rd32_at hlt, wrap_next hlt (by omega)]) ?_
      refine TotQ.ite (fun _ => TotQ.some (few_no l)) (fun h8 => ?_)
      refine ih (i + 1) (by omega) (by omega) (fun j x hj hx' => ?_)
      rcases Nat.lt_succ_iff_lt_or_eq.1 hj with hj | rfl
      · exact hx j x hj hx'
      · rw [List.getElem?_eq_getElem hlt] at hx'
        obtain rfl := Option.some.inj hx'
        omega
  have hj : ∀ b : Bool, (b = false → l.length ≤ 20) → TotQ (Few l) (fun k => intarsialaw26_light.j0 k l b) := by
    intro b hb
    refine TotQ.step (fun k => by simp only [intarsialaw26_light.j0]; rfl) ?_
    exact TotQ.ite (fun _ => TotQ.some (few_no l)) (fun h => h0 (hb (by simpa using h)) 0 (Nat.zero_le _) (fun j x hj => by omega))
  unfold intarsialaw26_light.f
  refine TotQ.bind (light_tot _ _) (fun b _ => ?_)
  exact TotQ.ite (fun _ => hj _ (fun h => by have := of_decide_eq_false h; omega)) (fun _ => hj _ (by simp))
theorem awake_yes : TotQ (fun b => b = true) (fun _ => (intarsialaw26_awake.f).bind fun t => some t) := TotQ.some rfl
instance : DecidableEq S32 := fun x y => decidable_of_iff (x.f0 = y.f0 ∧ x.f1 = y.f1) ⟨fun h => by obtain ⟨a, l⟩ := x; obtain ⟨c, m⟩ := y; obtain ⟨h1, h2⟩ := h; simp only at h1 h2; rw [h1, h2], fun h => by rw [h]; exact ⟨rfl, rfl⟩⟩
theorem sameInst_val (x y : S32) (hb : x.f1.length ≤ 9223372036854775807) : Ev (fun k => intarsiaref21_SameInst.f k x.f0 x.f1 y.f0 y.f1) (decide (x = y)) := by
  obtain ⟨a, l⟩ := x
  obtain ⟨c, m⟩ := y
  by_cases h : a = c
  · subst h
    refine Ev.congr (f := fun k => (intarsiaref21_SameInts.f k l m).bind fun t => some t) (fun k => by rw [intarsiaref21_SameInst.f, if_pos rfl]) ?_
    have e : decide ((⟨a, l⟩ : S32) = ⟨a, m⟩) = decide (l = m) := decide_eq_decide.2 (by simp)
    rw [e]
    exact Ev.bind (same_val l m hb) (Ev.now _)
  · have e : decide ((⟨a, l⟩ : S32) = ⟨c, m⟩) = false := decide_eq_false (fun e => h (S32.mk.inj e).1)
    rw [e]
    exact Ev.congr (f := fun _ => some false) (fun k => by rw [intarsiaref21_SameInst.f, if_neg h]) (Ev.now _)
theorem sameInsts_self (l : List S32) (hl : l.length ≤ 9223372036854775807) (hb : okInsts l) : Ev (fun k => intarsialaw26_sameInsts.f k l l) true := by
  have h : TotQ (fun b => b = true) (fun k => intarsiaref21_SameInsts.l0 k l l ((0 : Nat) : Int)) := by
    refine TotQ.loop (Q := fun b => b = true) (g := fun k x => intarsiaref21_SameInsts.l0 k l l x) l.length (TotQ.step (fun k => by simp only [intarsiaref21_SameInsts.l0]; rw [if_neg (by omega)]) (TotQ.some rfl)) (fun i hi ih => ?_) 0 (Nat.zero_le _)
    refine TotQ.step (fun k => by simp only [intarsiaref21_SameInsts.l0]; rw [if_pos (by omega), if_pos (by omega), if_pos (by omega), rd32_at hi, wrap_next hi hl]) ?_
    have := hb _ (List.getElem_mem hi)
    exact TotQ.bindE (sameInst_val l[i] l[i] (by omega)) (TotQ.ite (fun _ => ih) (fun h => by simp at h))
  obtain ⟨b, e, rfl⟩ := h
  refine Ev.congr (f := fun k => (intarsiaref21_SameInsts.f k l l).bind fun t => some t) (fun k => by rw [intarsialaw26_sameInsts.f]) ?_
  refine Ev.bind (a := true) ?_ (Ev.now _)
  exact Ev.congr (fun k => by rw [intarsiaref21_SameInsts.f, if_pos rfl]; rfl) e
theorem sortL_ok {lt : S32 → S32 → Bool} {l : List S32} (h : okInsts l) : okInsts (sortL lt l) := fun x hx => h x ((sortL_mem lt l x).1 hx)
end Go.Proofs.Ytjkdfjkaeoklmaa.Q
namespace Go.Proofs.Ytjkdfjkaeoklmaa.Q
open Go.RowKit Go.Proofs.YtjkdfjkaeoklmaaW.PrintWords
set_option linter.unusedVariables false
set_option linter.unusedSimpArgs false
def entr (b : Bool) (l : List S32) : List S38 := l.map fun x => ⟨x, b⟩
theorem unfired_no (l : List S32) : unfired (entr false l) = l := by
  induction l with
  | nil => rfl
  | cons x l ih => simp only [unfired, entr] at ih ⊢; simp [ih]
theorem unfired_yes (l : List S32) : unfired (entr true l) = [] := by
  induction l with
  | nil => rfl
  | cons x l ih => simp only [unfired, entr] at ih ⊢; simp [ih]
theorem entr_ok {b : Bool} {l : List S32} (h : okInsts l) : okEntries (entr b l) := by
  intro x hx
  obtain ⟨y, hy, rfl⟩ := List.mem_map.1 hx
  exact h y hy
theorem rev_take (l : List S32) (i : Nat) (h : i < l.length) : l.reverse.take i ++ [l[l.length - 1 - i]] = l.reverse.take (i + 1) := by
  have hr : i < l.reverse.length := by simpa using h
  rw [List.take_succ_eq_append_getElem hr, List.getElem_reverse]
theorem orderFirst_true (l0 : List S70) (l1 : List S45) (h1 : okRules l1) (how : Int) (l : List S32) : ∃ k, intarsialaw26_OrderFirst.f k l0 l1 how l = some true := by
  refine TotQ.rounds ?_
  have irr := lessP_irr l1 how
  have tri := lessP_tri l1 how
  have tr := lessP_trans l1 how
  have hj0 : ∀ b : Bool, (b = false → l.length ≤ 20 ∧ okInsts l) → TotQ (fun b => b = true) (fun k => intarsialaw26_OrderFirst.j0 k how l b l0 l1) := by
    intro b hb
    refine TotQ.step (fun k => by simp only [intarsialaw26_OrderFirst.j0]; rfl) ?_
    refine TotQ.ite (fun _ => awake_yes) (fun hbf => ?_)
    obtain ⟨hl, hok⟩ := hb (by simpa using hbf)
    have hj2 : TotQ (fun b => b = true) (fun k => intarsialaw26_OrderFirst.j2 k how l.reverse (sortL (lessP l1 how) l) false l0 l1) := by
      refine TotQ.step (fun k => by simp only [intarsialaw26_OrderFirst.j2]; rw [if_neg (by decide)]) ?_
      have hrok : okInsts l.reverse := fun x hx => hok x (by simpa using hx)
      refine TotQ.bindE (sort_o_val l1 h1 how l.reverse hrok (by simpa using hl)) ?_
      rw [sortL_eq irr tri tr (List.reverse_perm l)]
      exact TotQ.bindE (sameInsts_self _ (by rw [sortL_len]; omega) (sortL_ok hok)) (TotQ.ite (fun _ => awake_yes) (fun h => absurd rfl h))
    have hdone : TotQ (fun b => b = true) (fun k => intarsialaw26_OrderFirst.l0 k how l (entr false (l.take l.length)) (entr true (l.take l.length)) (l.reverse.take l.length) (l.length : Int) l0 l1) := by
      rw [List.take_length, List.take_of_length_le (by simp)]
      refine TotQ.step (fun k => by simp only [intarsialaw26_OrderFirst.l0]; rw [if_neg (by omega)]) ?_
      refine TotQ.bindE (sort_o_val l1 h1 how l hok hl) ?_
      refine TotQ.bindE (select_o_val l1 h1 how (entr false l) (entr_ok hok) (by simp [entr]; omega)) ?_
      refine TotQ.bindE (select_o_val l1 h1 how (entr true l) (entr_ok hok) (by simp [entr]; omega)) ?_
      have e1 : selP (lessP l1 how) (entr true l) = (0, [], false) := by rw [selP, unfired_yes]
      rw [e1]
      refine TotQ.ite (fun _ => ?_) (fun h => absurd (by rw [sortL_len]) h)
      refine TotQ.ite (fun h => by cases h) (fun _ => ?_)
      cases hl' : l with
      | nil =>
        have e2 : selP (lessP l1 how) (entr false ([] : List S32)) = (0, [], false) := rfl
        rw [e2]
        refine TotQ.ite (fun h => by simp at h) (fun _ => ?_)
        refine TotQ.ite (fun h => by cases h) (fun _ => ?_)
        rw [← hl']
        exact hj2
      | cons m r =>
        have e2 : selP (lessP l1 how) (entr false (m :: r)) = ((minT (lessP l1 how) m r).f0, (minT (lessP l1 how) m r).f1, true) := by rw [selP, unfired_no]
        rw [e2]
        have hs : (sortL (lessP l1 how) (m :: r)).length = r.length + 1 := by rw [sortL_len]; rfl
        have h0 : rd_T32 (sortL (lessP l1 how) (m :: r)) 0 = minT (lessP l1 how) m r := by
          have hh := minT_head irr tri tr m r
          rw [List.head?_eq_getElem?] at hh
          rw [rd_T32, List.getD_eq_getElem?_getD]
          show (sortL (lessP l1 how) (m :: r))[0]?.getD _ = _
          rw [hh]
          rfl
        have hlen : 0 < ((sortL (lessP l1 how) (m :: r)).length : Int) := by omega
        refine TotQ.ite (fun h => ?_) (fun _ => ?_)
        · have : decide (((m :: r).length : Int) > 0) = true := decide_eq_true (by rw [List.length_cons]; omega)
          rw [this] at h
          cases h
        · refine TotQ.ite (fun _ => ?_) (fun h => absurd rfl h)
          refine TotQ.ite (fun _ => ?_) (fun h => absurd hlen h)
          rw [h0]
          have hb : (minT (lessP l1 how) m r).f1.length ≤ 12 := hok _ (by rw [hl']; exact minT_mem (lt := lessP l1 how) r m)
          refine TotQ.bindE (sameInst_val (minT (lessP l1 how) m r) (minT (lessP l1 how) m r) (by omega)) ?_
          rw [decide_eq_true rfl, ← hl']
          exact hj2
    have hl0 : ∀ n i : Nat, l.length - i = n → i ≤ l.length → TotQ (fun b => b = true) (fun k => intarsialaw26_OrderFirst.l0 k how l (entr false (l.take i)) (entr true (l.take i)) (l.reverse.take i) (i : Int) l0 l1) := by
      intro n
      induction n with
      | zero =>
        intro i hn hi
        obtain rfl : i = l.length := by omega
        exact hdone
      | succ n ih =>
        intro i hn hi
        have hlt : i < l.length := by omega
        have g1 : (entr false (l.take i)).length < 3518437208883 := by simp [entr]; omega
        have g2 : (entr true (l.take i)).length < 3518437208883 := by simp [entr]; omega
        have g3 : (l.reverse.take i).length < 4398046511104 := by rw [List.length_take]; omega
        have w1 : wrap64 (wrap64 ((l.length : Int) - 1) - (i : Int)) = ((l.length - 1 - i : Nat) : Int) := by
          unfold wrap64
          omega
        have w2 : l.length - 1 - i < l.length := by omega
        have e1 : ∀ b, entr b (l.take i) ++ [(⟨⟨l[i].f0, l[i].f1⟩, b⟩ : S38)] = entr b (l.take (i + 1)) := by
          intro b
          rw [List.take_succ_eq_append_getElem hlt, entr, entr, List.map_append]
          rfl
        have e2 : l.reverse.take i ++ [(⟨l[l.length - 1 - i].f0, l[l.length - 1 - i].f1⟩ : S32)] = l.reverse.take (i + 1) := rev_take l i hlt
        refine TotQ.step (fun k => by simp only [intarsialaw26_OrderFirst.l0]; rw [w1, if_pos (show (i : Int) < (l.length : Int) by omega), if_pos (show (0 : Int) ≤ (i : Int) by omega), if_pos g1, if_pos g2, if_pos (show (0 : Int) ≤ ((l.length - 1 - i : Nat) : Int) by omega), if_pos (show ((l.length - 1 - i : Nat) : Int) < (l.length : Int) by omega), if_pos g3, rd32_at hlt, rd32_at w2, wrap_next hlt (by omega), e1, e1, e2]) ?_
        exact ih (i + 1) (by omega) (by omega)
    exact hl0 _ 0 rfl (Nat.zero_le _)
  unfold intarsialaw26_OrderFirst.f
  refine TotQ.bind (light26_tot l0 l1 l) (fun b hb => TotQ.ite (fun hbt => ?_) (fun _ => hj0 _ (by simp)))
  exact hj0 _ (fun _ => hb hbt)
end Go.Proofs.Ytjkdfjkaeoklmaa.Q
namespace Go.Proofs.Ytjkdfjkaeoklmaa.Q
open Go.RowKit Go.Proofs.YtjkdfjkaeoklmaaW.PrintWords
set_option linter.unusedVariables false
/-- Whatever reads as data of a type is read by a kind. -/
def Opens {α : Type} (P : Program) (d : Kd α) (t : TypeId) (q : α → Prop) : Prop :=
  P.cellsOf t = d.sz ∧ ∀ (H : Type) (enc : TypeId × Value → H) (W : World) (fuel : Nat) (cs : List Value) (x : DataW H × List MemPlace),
    DataW.trod enc P W 0 (fun _ => true) true fuel t cs = some x → ∃ y, d.K W y cs ∧ q y
section
variable {P : Program}
theorem Opens.imp {α : Type} {d : Kd α} {t : TypeId} {q q' : α → Prop} (h : Opens P d t q) (hq : ∀ x, q x → q' x) : Opens P d t q' :=
  ⟨h.1, fun H enc W fuel cs x hx => by
    obtain ⟨y, hy, hq'⟩ := h.2 H enc W fuel cs x hx
    exact ⟨y, hy, hq y hq'⟩⟩
theorem opens_int {k : IntKind} {t : TypeId} (h : P.underlying t = some (.int k)) (hc : P.cellsOf t = 1) : Opens P (Kd.int k) t (fun n => (Lit.int k n).wf = true) :=
  ⟨hc, fun H enc W fuel cs x hx => by
    obtain ⟨n, rfl, _, hw⟩ := DataW.trod_int h hx
    exact ⟨n, rfl, hw⟩⟩
theorem opens_bool {t : TypeId} (h : P.underlying t = some .bool) (hc : P.cellsOf t = 1) : Opens P Kd.bool t (fun _ => True) :=
  ⟨hc, fun H enc W fuel cs x hx => by
    obtain ⟨b, rfl, _⟩ := DataW.trod_bool h hx
    exact ⟨b, rfl, trivial⟩⟩
theorem opens_string {t : TypeId} (h : P.underlying t = some .string) (hc : P.cellsOf t = 1) : Opens P Kd.string t (fun s => s.size ≤ maxLen) :=
  ⟨hc, fun H enc W fuel cs x hx => by
    obtain ⟨s, rfl, _, hw⟩ := DataW.trod_string h hx
    exact ⟨s, rfl, hw⟩⟩
theorem list_of {α : Type} {p : Nat → α → Prop} : ∀ n : Nat, (∀ i, i < n → ∃ y, p i y) → ∃ l : List α, l.length = n ∧ ∀ i y, l[i]? = some y → p i y
  | 0, _ => ⟨[], rfl, fun i y h => by simp at h⟩
  | n + 1, h => by
    obtain ⟨l, hl, hp⟩ := list_of n (fun i hi => h i (by omega))
    obtain ⟨y, hy⟩ := h n (by omega)
    refine ⟨l ++ [y], by simp [hl], fun i z hz => ?_⟩
    rcases Nat.lt_or_ge i l.length with hi | hi
    · rw [List.getElem?_append_left hi] at hz
      exact hp i z hz
    · have : i = n := by
        have := (List.getElem?_eq_some_iff.1 hz).1
        simp at this
        omega
      subst this
      rw [List.getElem?_append_right hi, hl, Nat.sub_self] at hz
      simp at hz
      subst hz
      exact hy
theorem opens_slice {α : Type} {d : Kd α} {q : α → Prop} {t e : TypeId} (h : P.underlying t = some (.slice e)) (hc : P.cellsOf t = 1) (he : Opens P d e q) : Opens P (Kd.slice e d) t (fun l => l.length ≤ maxLen ∧ ∀ x ∈ l, q x) :=
  ⟨hc, fun H enc W fuel cs x hx => by
    rcases Go.Deep.open_slice h hx with ⟨rfl, _⟩ | ⟨a, len, cap, m, n, D, Pl, rfl, _, hl, hm, hmm, _, hi⟩
    · exact ⟨[], ⟨none, 0, rfl, Nat.le_refl _, ⟨rfl, by simp, fun h => absurd h (by simp)⟩⟩, by simp, by simp⟩
    · have hlm : len ≤ m := by rw [hmm]; simp [hl]
      have h1 : ∀ i, i < len → ∃ y, q y ∧ ∃ c, c.length = d.sz ∧ d.K W y c ∧ ∀ j u, c[j]? = some u → W.cell? (a.add (i * d.sz + j)) = some u := by
        intro i hil
        obtain ⟨c, hcc, ht⟩ := hi i (by omega)
        obtain ⟨y, hy, hq⟩ := he.2 H enc W n c _ ht
        obtain ⟨_, hlen, hcell⟩ := World.cells?_some hcc
        rw [he.1] at hlen hcell
        refine ⟨y, hq, c, hlen, hy, fun j u hu => ?_⟩
        have hj : j < d.sz := by rw [← hlen]; exact (List.getElem?_eq_some_iff.1 hu).1
        rw [← Go.Deep.add_add, hcell j hj]
        exact hu
      obtain ⟨l, hll, hp⟩ := list_of len h1
      have hm' : len ≤ 9223372036854775807 := by unfold maxLen at hm; omega
      subst hll
      refine ⟨l, ⟨some a, cap, rfl, hl, ⟨rfl, hm', fun _ => ⟨a, rfl, fun j p hj => (hp j p hj).2⟩⟩⟩, Nat.le_trans hl hm, fun x hx => ?_⟩
      obtain ⟨i, hi, rfl⟩ := List.mem_iff_getElem.1 hx
      exact (hp i _ (List.getElem?_eq_getElem hi)).1⟩
/-- The same of fields, from a place on. -/
def OpensF {β : Type} (P : Program) (d : Kd β) (fs : List Field) (off : Nat) (q : β → Prop) : Prop :=
  ∀ (H : Type) (enc : TypeId × Value → H) (W : World) (n : Nat) (cs : List Value), (∀ f ∈ fs, ∃ x, DataW.trod enc P W 0 (fun _ => true) true n f.type ((cs.drop f.offset).take (P.cellsOf f.type)) = some x) →
    ∃ y, d.K W y ((cs.drop off).take d.sz) ∧ q y
theorem opensF_one {β : Type} {d : Kd β} {f : Field} {off : Nat} {q : β → Prop} (ho : f.offset = off) (h : Opens P d f.type q) : OpensF P d [f] off q := fun H enc W n cs hf => by
  obtain ⟨x, hx⟩ := hf f (by simp)
  rw [ho, h.1] at hx
  exact h.2 _ _ _ _ _ _ hx
theorem opensF_cons {β γ : Type} {d : Kd β} {d' : Kd γ} {f : Field} {fs : List Field} {off : Nat} {q : β → Prop} {q' : γ → Prop} (ho : f.offset = off) (h : Opens P d f.type q) (hr : OpensF P d' fs (off + d.sz) q') :
    OpensF P (Kd.pair d d') (f :: fs) off (fun y => q y.1 ∧ q' y.2) := fun H enc W n cs hf => by
  obtain ⟨y, hy, qy⟩ := opensF_one ho h H enc W n cs (fun g hg => hf g (by simp at hg; simp [hg]))
  obtain ⟨z, hz, qz⟩ := hr H enc W n cs (fun g hg => hf g (by simp [hg]))
  refine ⟨(y, z), ⟨_, _, ?_, hy, hz⟩, qy, qz⟩
  show (cs.drop off).take (d.sz + d'.sz) = _
  rw [List.take_add, List.drop_drop]
theorem opens_struct {S β : Type} {d : Kd β} {proj : S → β} (inv : β → S) (hinv : ∀ y, proj (inv y) = y) {t : TypeId} {fs : Array Field} {q : β → Prop} (h : P.underlying t = some (.struct fs)) (hc : P.cellsOf t = d.sz) (hf : OpensF P d fs.toList 0 q) :
    Opens P (Kd.iso d proj) t (fun x => q (proj x)) :=
  ⟨hc, fun H enc W fuel cs x hx => by
    obtain ⟨xs, n, _, _, hl, hxs, hg⟩ := DataW.trod_struct h hx
    obtain ⟨y, hy, hq⟩ := hf H enc W n cs (fun f hfm => by
      obtain ⟨i, hi, rfl⟩ := List.mem_iff_getElem.1 hfm
      have hi' : i < fs.size := by simpa using hi
      have := hg i fs[i] (Array.getElem?_eq_getElem hi')
      rw [List.getElem?_eq_getElem (by omega)] at this
      exact ⟨_, by simpa using this⟩)
    rw [List.drop_zero, List.take_of_length_le (by rw [hl, hc]; exact Nat.le_refl _)] at hy
    exact ⟨inv y, by show d.K W (proj (inv y)) cs; rw [hinv]; exact hy, by show q (proj (inv y)); rw [hinv]; exact hq⟩⟩
end
end Go.Proofs.Ytjkdfjkaeoklmaa.Q
namespace Go.Proofs.Ytjkdfjkaeoklmaa.Q
open Go.RowKit Go.Proofs.YtjkdfjkaeoklmaaW.PrintWords
def ok70 (x : S70) : Prop := x.f0.size ≤ maxLen ∧ (x.f1.length ≤ maxLen ∧ ∀ y1 ∈ x.f1, y1.size ≤ maxLen)
theorem opens70 : Opens Try.prog k70 70 ok70 := (opens_struct (fun y => ⟨y.1, y.2⟩) (fun _ => rfl) Try.underlying70 (by kernel_rfl) (opensF_cons rfl (opens_string (by kernel_rfl) (by kernel_rfl)) (opensF_one rfl (opens_slice (by kernel_rfl) (by kernel_rfl) (opens_string (by kernel_rfl) (by kernel_rfl)))))).imp (fun _ h => h)
def ok110 (x : S110) : Prop := (Lit.int .u8 x.f0).wf = true ∧ (Lit.int .i64 x.f1).wf = true ∧ x.f2.size ≤ maxLen
theorem opens110 : Opens Try.prog k110 110 ok110 := (opens_struct (fun y => ⟨y.1, y.2.1, y.2.2⟩) (fun _ => rfl) Try.underlying110 (by kernel_rfl) (opensF_cons rfl (opens_int (by kernel_rfl) (by kernel_rfl)) (opensF_cons rfl (opens_int (by kernel_rfl) (by kernel_rfl)) (opensF_one rfl (opens_string (by kernel_rfl) (by kernel_rfl)))))).imp (fun _ h => h)
def ok112 (x : S112) : Prop := (Lit.int .u8 x.f0).wf = true ∧ x.f1.size ≤ maxLen ∧ ok110 x.f2
theorem opens112 : Opens Try.prog k112 112 ok112 := (opens_struct (fun y => ⟨y.1, y.2.1, y.2.2⟩) (fun _ => rfl) Try.underlying112 (by kernel_rfl) (opensF_cons rfl (opens_int (by kernel_rfl) (by kernel_rfl)) (opensF_cons rfl (opens_string (by kernel_rfl) (by kernel_rfl)) (opensF_one rfl opens110)))).imp (fun _ h => h)
def ok84 (x : S84) : Prop := x.f0.size ≤ maxLen ∧ (x.f1.length ≤ maxLen ∧ ∀ y1 ∈ x.f1, ok110 y1) ∧ (x.f2.length ≤ maxLen ∧ ∀ y1 ∈ x.f2, ok112 y1)
theorem opens84 : Opens Try.prog k84 84 ok84 := (opens_struct (fun y => ⟨y.1, y.2.1, y.2.2⟩) (fun _ => rfl) Try.underlying84 (by kernel_rfl) (opensF_cons rfl (opens_string (by kernel_rfl) (by kernel_rfl)) (opensF_cons rfl (opens_slice (by kernel_rfl) (by kernel_rfl) opens110) (opensF_one rfl (opens_slice (by kernel_rfl) (by kernel_rfl) opens112))))).imp (fun _ h => h)
def ok65 (x : S65) : Prop := True ∧ x.f1.size ≤ maxLen ∧ (x.f2.length ≤ maxLen ∧ ∀ y1 ∈ x.f2, ok84 y1)
theorem opens65 : Opens Try.prog k65 65 ok65 := (opens_struct (fun y => ⟨y.1, y.2.1, y.2.2⟩) (fun _ => rfl) Try.underlying65 (by kernel_rfl) (opensF_cons rfl (opens_bool (by kernel_rfl) (by kernel_rfl)) (opensF_cons rfl (opens_string (by kernel_rfl) (by kernel_rfl)) (opensF_one rfl (opens_slice (by kernel_rfl) (by kernel_rfl) opens84))))).imp (fun _ h => h)
def ok114 (x : S114) : Prop := (Lit.int .u8 x.f0).wf = true ∧ ok110 x.f1 ∧ x.f2.size ≤ maxLen
theorem opens114 : Opens Try.prog k114 114 ok114 := (opens_struct (fun y => ⟨y.1, y.2.1, y.2.2⟩) (fun _ => rfl) Try.underlying114 (by kernel_rfl) (opensF_cons rfl (opens_int (by kernel_rfl) (by kernel_rfl)) (opensF_cons rfl opens110 (opensF_one rfl (opens_string (by kernel_rfl) (by kernel_rfl)))))).imp (fun _ h => h)
def ok92 (x : S92) : Prop := x.f0.size ≤ maxLen ∧ (x.f1.length ≤ maxLen ∧ ∀ y1 ∈ x.f1, ok114 y1)
theorem opens92 : Opens Try.prog k92 92 ok92 := (opens_struct (fun y => ⟨y.1, y.2⟩) (fun _ => rfl) Try.underlying92 (by kernel_rfl) (opensF_cons rfl (opens_string (by kernel_rfl) (by kernel_rfl)) (opensF_one rfl (opens_slice (by kernel_rfl) (by kernel_rfl) opens114)))).imp (fun _ h => h)
def ok89 (x : S89) : Prop := (Lit.int .u8 x.f0).wf = true ∧ x.f1.size ≤ maxLen ∧ (Lit.int .i64 x.f2).wf = true ∧ x.f3.size ≤ maxLen ∧ (x.f4.length ≤ maxLen ∧ ∀ y1 ∈ x.f4, ok92 y1) ∧ (x.f5.length ≤ maxLen ∧ ∀ y1 ∈ x.f5, (y1.length ≤ maxLen ∧ ∀ y2 ∈ y1, ok114 y2))
theorem opens89 : Opens Try.prog k89 89 ok89 := (opens_struct (fun y => ⟨y.1, y.2.1, y.2.2.1, y.2.2.2.1, y.2.2.2.2.1, y.2.2.2.2.2⟩) (fun _ => rfl) Try.underlying89 (by kernel_rfl) (opensF_cons rfl (opens_int (by kernel_rfl) (by kernel_rfl)) (opensF_cons rfl (opens_string (by kernel_rfl) (by kernel_rfl)) (opensF_cons rfl (opens_int (by kernel_rfl) (by kernel_rfl)) (opensF_cons rfl (opens_string (by kernel_rfl) (by kernel_rfl)) (opensF_cons rfl (opens_slice (by kernel_rfl) (by kernel_rfl) opens92) (opensF_one rfl (opens_slice (by kernel_rfl) (by kernel_rfl) (opens_slice (by kernel_rfl) (by kernel_rfl) opens114))))))))).imp (fun _ h => h)
def ok45 (x : S45) : Prop := x.f0.size ≤ maxLen ∧ (x.f1.length ≤ maxLen ∧ ∀ y1 ∈ x.f1, ok65 y1) ∧ (x.f2.length ≤ maxLen ∧ ∀ y1 ∈ x.f2, ok89 y1)
theorem opens45 : Opens Try.prog k45 45 ok45 := (opens_struct (fun y => ⟨y.1, y.2.1, y.2.2⟩) (fun _ => rfl) Try.underlying45 (by kernel_rfl) (opensF_cons rfl (opens_string (by kernel_rfl) (by kernel_rfl)) (opensF_cons rfl (opens_slice (by kernel_rfl) (by kernel_rfl) opens65) (opensF_one rfl (opens_slice (by kernel_rfl) (by kernel_rfl) opens89))))).imp (fun _ h => h)
def ok25 (x : S25) : Prop := (x.f0.length ≤ maxLen ∧ ∀ y1 ∈ x.f0, ok70 y1) ∧ (x.f1.length ≤ maxLen ∧ ∀ y1 ∈ x.f1, ok45 y1)
theorem opens25 : Opens Try.prog k25 25 ok25 := (opens_struct (fun y => ⟨y.1, y.2⟩) (fun _ => rfl) Try.underlying25 (by kernel_rfl) (opensF_cons rfl (opens_slice (by kernel_rfl) (by kernel_rfl) opens70) (opensF_one rfl (opens_slice (by kernel_rfl) (by kernel_rfl) opens45)))).imp (fun _ h => h)
def ok32 (x : S32) : Prop := (Lit.int .i64 x.f0).wf = true ∧ (x.f1.length ≤ maxLen ∧ ∀ y1 ∈ x.f1, (Lit.int .i64 y1).wf = true)
theorem opens32 : Opens Try.prog k32 32 ok32 := (opens_struct (fun y => ⟨y.1, y.2⟩) (fun _ => rfl) Try.underlying32 (by kernel_rfl) (opensF_cons rfl (opens_int (by kernel_rfl) (by kernel_rfl)) (opensF_one rfl (opens_slice (by kernel_rfl) (by kernel_rfl) (opens_int (by kernel_rfl) (by kernel_rfl)))))).imp (fun _ h => h)
end Go.Proofs.Ytjkdfjkaeoklmaa.Q
namespace Go.Proofs.Ytjkdfjkaeoklmaa.Q
theorem okRules_of {y : S25} (h : ok25 y) : okRules y.f1 := by
  obtain ⟨_, h1, h2⟩ := h
  have e : maxLen = 9223372036854775807 := rfl
  refine ⟨by omega, fun r hr => ?_⟩
  obtain ⟨_, ⟨h3, h4⟩, _⟩ := h2 r hr
  refine ⟨by omega, fun c hc => ?_⟩
  obtain ⟨_, _, h5, _⟩ := h4 c hc
  omega
end Go.Proofs.Ytjkdfjkaeoklmaa.Q
