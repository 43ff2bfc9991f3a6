/- Data told in two ways, compared by the kernel. Over any program. -/
import Derived.Test.YtcmlhhjnbopbnaaJoJ29
namespace Go.Jo
open Go.RowKit
set_option autoImplicit false

def eqsL (S : D → D → Option (List (D × D))) : List D → List D → Option (List (D × D))
  | [], [] => some []
  | x :: xs, y :: ys => match S x y, eqsL S xs ys with | some a, some b => some (a ++ b) | _, _ => none
  | _, _ => none
def eqsR (S : D → D → Option (List (D × D))) (f g : Nat → List D) : Nat → Option (List (D × D))
  | 0 => some []
  | m + 1 => match eqsR S f g m, eqsL S (f m) (g m) with | some a, some b => some (a ++ b) | _, _ => none
/-- The equations that make one out of the other. -/
def eqs : Nat → D → D → Option (List (D × D))
  | n + 1, .sl k m f, .sl k' m' g => if k = k' ∧ m = m' then eqsR (eqs n) f g m else none
  | _ + 1, .v (.slice none 0 0), .sl _ m _ => if m = 0 then some [] else none
  | n + 1, .ag xs, .ag ys => eqsL (eqs n) xs ys
  | n + 1, .tu xs, .tu ys => eqsL (eqs n) xs ys
  | _, x, y => some [(x, y)]

def Eqs (l : List (D × D)) : Prop := ∀ p ∈ l, p.1 = p.2
theorem Eqs.app {a b : List (D × D)} (h : Eqs (a ++ b)) : Eqs a ∧ Eqs b := ⟨fun p hp => h p (List.mem_append_left _ hp), fun p hp => h p (List.mem_append_right _ hp)⟩

theorem eqsL_ok {S : D → D → Option (List (D × D))} (hS : ∀ {x y l}, S x y = some l → Eqs l → DEq x y) : ∀ {xs ys : List D} {l : List (D × D)}, eqsL S xs ys = some l → Eqs l → xs.length = ys.length ∧ ∀ (i : Nat) x y, xs[i]? = some x → ys[i]? = some y → DEq x y
  | [], [], _, _, _ => ⟨rfl, fun i x y h _ => by simp at h⟩
  | x :: xs, y :: ys, l, h, he => by
    simp only [eqsL] at h
    split at h
    · rename_i a b h1 h2
      cases h
      obtain ⟨k1, k2⟩ := he.app
      obtain ⟨q1, q2⟩ := eqsL_ok hS h2 k2
      refine ⟨by simp [q1], fun i u v hu hv => ?_⟩
      cases i with
      | zero => simp at hu hv; subst hu; subst hv; exact hS h1 k1
      | succ i => exact q2 i u v (by simpa using hu) (by simpa using hv)
    · cases h
  | [], _ :: _, _, h, _ => by cases h
  | _ :: _, [], _, h, _ => by cases h

theorem eqsR_ok {S : D → D → Option (List (D × D))} (hS : ∀ {x y l}, S x y = some l → Eqs l → DEq x y) {f g : Nat → List D} : ∀ {m : Nat} {l : List (D × D)}, eqsR S f g m = some l → Eqs l → ∀ i, i < m → (f i).length = (g i).length ∧ ∀ (j : Nat) x y, (f i)[j]? = some x → (g i)[j]? = some y → DEq x y
  | 0, _, _, _, i, hi => absurd hi (Nat.not_lt_zero _)
  | m + 1, l, h, he, i, hi => by
    simp only [eqsR] at h
    split at h
    · rename_i a b h1 h2
      cases h
      obtain ⟨k1, k2⟩ := he.app
      by_cases e : i = m
      · subst e; exact eqsL_ok hS h2 k2
      · exact eqsR_ok hS h1 k1 i (by omega)
    · cases h

theorem eqs_ok : ∀ {n : Nat} {x y : D} {l : List (D × D)}, eqs n x y = some l → Eqs l → DEq x y := by
  intro n
  induction n with
  | zero =>
    intro x y l h he
    have : l = [(x, y)] := by
      unfold eqs at h
      cases h
      rfl
    subst this
    exact DEq.of_eq (he _ List.mem_cons_self)
  | succ n ih =>
    intro x y l h he
    unfold eqs at h
    split at h
    · rename_i h0; cases h0
      split at h
      · rename_i e
        obtain ⟨rfl, rfl⟩ := e
        have := eqsR_ok (S := eqs n) (fun h1 h2 => ih h1 h2) h he
        exact DEq.sl (fun i hi => (this i hi).1.symm) (fun i j x y hi hx hy => (this i hi).2 j x y hx hy)
      · cases h
    · split at h
      · rename_i e; subst e; exact DEq.nil _ _
      · cases h
    · rename_i h0; cases h0
      obtain ⟨h1, h2⟩ := eqsL_ok (S := eqs n) (fun h1 h2 => ih h1 h2) h he
      exact DEq.ag h1 h2
    · rename_i h0; cases h0
      obtain ⟨h1, h2⟩ := eqsL_ok (S := eqs n) (fun h1 h2 => ih h1 h2) h he
      exact DEq.tu h1 h2
    · cases h
      exact DEq.of_eq (he _ List.mem_cons_self)

theorem DEq.byE (n : Nat) {x y : D} (h1 : (eqs n x y).isSome = true) (h2 : ((eqs n x y).getD []).map (·.1) = ((eqs n x y).getD []).map (·.2)) : DEq x y := by
  obtain ⟨l, hl⟩ := Option.isSome_iff_exists.1 h1
  refine eqs_ok hl (fun p hp => ?_)
  rw [hl] at h2
  simp only [Option.getD_some] at h2
  obtain ⟨i, hi, rfl⟩ := List.getElem_of_mem hp
  have := congrArg (fun z => z[i]?) h2
  simpa [hi] using this
end Go.Jo
