/- From what data look like to Lean's structures. Over any program. -/
import Derived.Test.YtcmlhhjnbopbnaaJoJ31
namespace Go.Jo
open Go.RowKit
set_option autoImplicit false

def LEq (xs ys : List D) : Prop := xs.length = ys.length ∧ ∀ (i : Nat) x y, xs[i]? = some x → ys[i]? = some y → DEq x y
theorem LEq.refl (xs : List D) : LEq xs xs := ⟨rfl, fun i x y h k => by rw [h] at k; cases k; exact DEq.refl _⟩
theorem LEq.nil : LEq [] [] := LEq.refl []
theorem LEq.app {a b c d : List D} (h : LEq a c) (k : LEq b d) : LEq (a ++ b) (c ++ d) := by
  refine ⟨by simp [h.1, k.1], fun i x y hx hy => ?_⟩
  by_cases e : i < a.length
  · rw [List.getElem?_append_left e] at hx
    rw [List.getElem?_append_left (by rw [← h.1]; exact e)] at hy
    exact h.2 i x y hx hy
  · rw [List.getElem?_append_right (by omega)] at hx
    rw [List.getElem?_append_right (by rw [← h.1]; omega), ← h.1] at hy
    exact k.2 _ x y hx hy
theorem LEq.one {x y : D} (h : DEq x y) : LEq [x] [y] := ⟨rfl, fun i a b ha hb => by
  cases i with
  | zero => simp at ha hb; subst ha; subst hb; exact h
  | succ i => simp at ha⟩

section
variable {P : Program}
theorem sh_bool {n : Nat} {t : TypeId} {xs : List D} (hu : P.underlying t = some .bool) (h : Sh P n t xs) : ∃ b, xs = [dB b] := by
  cases n with
  | zero => exact h.elim
  | succ n => simp only [Sh, hu] at h; exact h
theorem sh_int {n : Nat} {t : TypeId} {k : IntKind} {xs : List D} (hu : P.underlying t = some (.int k)) (h : Sh P n t xs) : ∃ z, xs = [dN k z] ∧ (Lit.int k z).wf = true := by
  cases n with
  | zero => exact h.elim
  | succ n => simp only [Sh, hu] at h; exact h
theorem sh_string {n : Nat} {t : TypeId} {xs : List D} (hu : P.underlying t = some .string) (h : Sh P n t xs) : ∃ s, xs = [dS s] := by
  cases n with
  | zero => exact h.elim
  | succ n => simp only [Sh, hu] at h; exact h
theorem sh_slice {n : Nat} {t e : TypeId} {xs : List D} (hu : P.underlying t = some (.slice e)) (h : Sh P n t xs) : ∃ q m f, xs = [.sl (P.cellsOf e) m f] ∧ ∀ i, i < m → Sh P q e (f i) := by
  cases n with
  | zero => exact h.elim
  | succ n => simp only [Sh, hu] at h; exact ⟨n, h⟩
theorem sh_struct {n : Nat} {t : TypeId} {fs : Array Field} {xs : List D} (hu : P.underlying t = some (.struct fs)) (h : Sh P n t xs) : ∃ (q : Nat) (yss : List (List D)), xs = yss.flatten ∧ yss.length = fs.toList.length ∧ ∀ (i : Nat) (f : Field) (ys : List D), fs.toList[i]? = some f → yss[i]? = some ys → Sh P q f.type ys := by
  cases n with
  | zero => exact h.elim
  | succ n => simp only [Sh, hu] at h; exact ⟨n, h⟩
theorem sh_array {n m : Nat} {t e : TypeId} {xs : List D} (hu : P.underlying t = some (.array m e)) (h : Sh P n t xs) : ∃ (q : Nat) (yss : List (List D)), xs = yss.flatten ∧ yss.length = m ∧ ∀ ys ∈ yss, Sh P q e ys := by
  cases n with
  | zero => exact h.elim
  | succ n => simp only [Sh, hu] at h; exact ⟨n, h⟩

/-- A slice, by its elements. -/
theorem of_slice {α : Type} [Inhabited α] {enc : α → List D} {ok : α → Prop} {n k : Nat} {t e : TypeId} {xs : List D} (hu : P.underlying t = some (.slice e)) (hk : P.cellsOf e = k) (he : ∀ {n : Nat} {ys : List D}, Sh P n e ys → ∃ x : α, LEq ys (enc x) ∧ ok x) (h : Sh P n t xs) :
    ∃ l : List α, LEq xs [slOf k enc l] ∧ ∀ x ∈ l, ok x := by
  obtain ⟨q, m, f, rfl, hf⟩ := sh_slice hu h
  have key : ∀ m', m' ≤ m → ∃ l : List α, l.length = m' ∧ (∀ i, i < m' → LEq (f i) (enc (l.getD i default))) ∧ ∀ x ∈ l, ok x := by
    intro m'
    induction m' with
    | zero => exact fun _ => ⟨[], rfl, fun i hi => absurd hi (Nat.not_lt_zero _), fun x h => by cases h⟩
    | succ m' ih =>
      intro hm
      obtain ⟨l, h1, h2, h3⟩ := ih (by omega)
      obtain ⟨x, hx, ho⟩ := he (hf m' (by omega))
      refine ⟨l ++ [x], by simp [h1], fun i hi => ?_, fun y hy => ?_⟩
      · by_cases e : i < m'
        · have := h2 i e
          rwa [List.getD_eq_getElem?_getD, List.getElem?_append_left (by omega), ← List.getD_eq_getElem?_getD]
        · obtain rfl : i = m' := by omega
          rw [List.getD_eq_getElem?_getD, List.getElem?_append_right (by omega)]
          simpa [h1] using hx
      · rcases List.mem_append.1 hy with h | h
        · exact h3 y h
        · rw [List.mem_singleton.1 h]; exact ho
  obtain ⟨l, h1, h2, h3⟩ := key m (Nat.le_refl _)
  refine ⟨l, LEq.one ?_, h3⟩
  rw [hk]
  subst h1
  exact DEq.sl (fun i hi => (h2 i hi).1.symm) (fun i j x y hi hx hy => (h2 i hi).2 j x y hx hy)

/-- An argument of the call. -/
theorem rep_of {H : Mem} {xs ys : List D} {cs : List Value} {v : Value} (hc : Cells H xs cs) (he : LEq xs ys) (hv : v = .agg cs.toArray) : RepD H (.ag ys) v := by
  subst hv
  have h1 : RepD H (.ag xs) (.agg cs.toArray) := .ag (by simp [hc.1]) (fun i x hx => by
    have := (hc.2 i x hx).1
    simpa [Array.getD_eq_getD_getElem?, List.getD_eq_getElem?_getD] using this)
  exact (DEq.ag he.1 he.2) _ _ h1
end
end Go.Jo
