/- A walk through a body; a contract out of it. Over any program. -/
import Derived.Test.YtcmlhhjnbopbnaaJoJ13
namespace Go.Jo
open Go.RowKit
set_option autoImplicit false

/-- One state may stand for another. -/
def St.le (st st' : St) : Prop := ∀ E g a w, Rel E st g a w → ∃ g', Rel E st' g' a w

section
variable {P : Program} {c : Cfg}

theorem Rel.drew {E : Ctx} {st : St} {g : G} {a : Act} {w : World} (h : Rel E st g a w) : Rel E st g a w.drew :=
  ⟨h.sl, h.wd.below_same ⟨rfl, rfl, rfl, Nat.le_refl _, fun _ _ => rfl⟩, h.df⟩

theorem least_ex {ι : Type} (p : ι → Prop) (μ : ι → Nat) (h : ∃ i, p i) : ∃ i, p i ∧ ∀ j, p j → μ i ≤ μ j := by
  obtain ⟨i, hi⟩ := h
  have : ∀ n i, μ i ≤ n → p i → ∃ i, p i ∧ ∀ j, p j → μ i ≤ μ j := by
    intro n
    induction n with
    | zero => intro i hn hi; exact ⟨i, hi, fun j _ => by omega⟩
    | succ n ih =>
      intro i hn hi
      by_cases hall : ∀ j, p j → μ i ≤ μ j
      · exact ⟨i, hi, hall⟩
      · simp only [Classical.not_forall] at hall
        obtain ⟨j, hj, hlt⟩ := hall
        exact ih j (by omega) hj
  exact this (μ i) i (Nat.le_refl _) hi

/-- The least measure of a state that stands for this one. -/
noncomputable def leastM {ι : Type} (E : Ctx) (S : ι → St) (μ : ι → Nat) (a : Act) (w : World) : Nat :=
  open Classical in if h : ∃ i, ∃ g, Rel E (S i) g a w then μ (least_ex (fun i => ∃ g, Rel E (S i) g a w) μ h).choose else 0

theorem leastM_spec {ι : Type} {E : Ctx} (S : ι → St) (μ : ι → Nat) {a : Act} {w : World} (h : ∃ i g, Rel E (S i) g a w) : ∃ i g, Rel E (S i) g a w ∧ leastM E S μ a w = μ i := by
  obtain ⟨⟨g, hg⟩, _⟩ := (least_ex (fun i => ∃ g, Rel E (S i) g a w) μ h).choose_spec
  exact ⟨_, g, hg, by unfold leastM; rw [dif_pos h]⟩

theorem leastM_le {ι : Type} {E : Ctx} (S : ι → St) (μ : ι → Nat) {a : Act} {w : World} {i : ι} {g : G} (h : Rel E (S i) g a w) : leastM E S μ a w ≤ μ i := by
  have hx : ∃ i, ∃ g, Rel E (S i) g a w := ⟨i, g, h⟩
  obtain ⟨_, hl⟩ := (least_ex (fun i => ∃ g, Rel E (S i) g a w) μ hx).choose_spec
  unfold leastM
  rw [dif_pos hx]
  exact hl i ⟨g, h⟩

end
end Go.Jo
