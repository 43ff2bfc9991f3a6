/- Walks and plain laws of the program's functions, a part of the proof (YtcmlhhjnbopbnaaJSE1). Conditions: those that each theorem states. -/
import Derived.Test.YtcmlhhjnbopbnaaJSC5
namespace Go.Jo.S
open Go.Jo Go.Proofs
set_option autoImplicit false
set_option linter.all false

/-! counting -/
def cnt (p : Nat → Bool) : Nat → Nat
  | 0 => 0
  | k + 1 => cnt p k + (bif p k then 1 else 0)
theorem cnt_le (p : Nat → Bool) : ∀ k, cnt p k ≤ k
  | 0 => Nat.le_refl _
  | k + 1 => by have := cnt_le p k; unfold cnt; cases p k <;> simp <;> omega
theorem cnt_mono (p : Nat → Bool) {j : Nat} : ∀ {k}, j ≤ k → cnt p j ≤ cnt p k
  | 0, h => by obtain rfl : j = 0 := by omega
               exact Nat.le_refl _
  | k + 1, h => by
    by_cases e : j = k + 1
    · subst e; exact Nat.le_refl _
    · have := cnt_mono p (k := k) (by omega : j ≤ k)
      conv => rhs; unfold cnt
      omega
theorem cnt_pos {p : Nat → Bool} {i k : Nat} (h : p i = true) (hi : i < k) : 0 < cnt p k := by
  have h1 : 0 < cnt p (i + 1) := by unfold cnt; rw [h]; simp
  exact Nat.lt_of_lt_of_le h1 (cnt_mono p hi)
theorem cnt_two {p : Nat → Bool} {i j k : Nat} (h : p i = true) (h' : p j = true) (hi : i < j) (hj : j < k) : 2 ≤ cnt p k := by
  have h1 := cnt_pos h hi
  have h2 : 2 ≤ cnt p (j + 1) := by unfold cnt; rw [h']; simp; omega
  exact Nat.le_trans h2 (cnt_mono p hj)
theorem cnt_one {p : Nat → Bool} : ∀ {k : Nat}, (∀ i j, i < j → j < k → p i = true → p j = true → False) → cnt p k ≤ 1
  | 0, _ => by unfold cnt; omega
  | k + 1, h => by
    have ih := cnt_one (p := p) (k := k) (fun i j h1 h2 => h i j h1 (by omega))
    unfold cnt
    cases hk : p k with
    | false => simpa using ih
    | true =>
      have : cnt p k = 0 := by
        by_cases e : cnt p k = 0
        · exact e
        · exfalso
          have : ∃ i, i < k ∧ p i = true := by
            clear ih h hk
            induction k with
            | zero => exact absurd rfl e
            | succ k ih =>
              cases hp : p k with
              | true => exact ⟨k, by omega, hp⟩
              | false =>
                unfold cnt at e; rw [hp] at e
                obtain ⟨i, h1, h2⟩ := ih (by simpa using e)
                exact ⟨i, by omega, h2⟩
          obtain ⟨i, h1, h2⟩ := this
          exact h i k h1 (by omega) h2 hk
      rw [this]; simp

section
variable (t : GTable)
def pA (w z : Int) (i : Nat) : Bool := (t.Pieces.getD i default).Zone == z && (t.Pieces.getD i default).Has == w
def pT (w z a : Int) (i : Nat) : Bool := ((t.Pieces.getD i default).Zone == z && (t.Pieces.getD i default).Has == w) && (t.Pieces.getD i default).At == a
def pL (i : Nat) : Bool := (t.Pieces.getD i default).Zone == 6

theorem w1 {k : Nat} (h : k ≤ 1000) : IntKind.i64.wrap ((k : Int) + 1) = ((k + 1 : Nat) : Int) := by
  rw [w64 (by omega) (by omega)]; omega

theorem many6_l0_eq (w z a : Int) : ∀ (n k : Nat), k + n ≤ 1000 → many6_l0 t w z a n (cnt (pA t w z) k) (cnt (pT t w z a) k) k = ((cnt (pA t w z) (k + n) : Int), (cnt (pT t w z a) (k + n) : Int), ((k + n : Nat) : Int)) := by
  intro n
  induction n with
  | zero => intro k h; rfl
  | succ n ih =>
    intro k h
    have e1 := ih (k + 1) (by omega)
    have a1 := cnt_le (pA t w z) k
    have a2 := cnt_le (pT t w z a) k
    rw [many6_l0, lE rfl]
    simp only [Int.toNat_natCast]
    have ek : ((k : Int) + 1) = ((k + 1 : Nat) : Int) := by omega
    have ee : k + (n + 1) = k + 1 + n := by omega
    rw [ee]
    cases h1 : ((t.Pieces.getD k default).Zone == z && (t.Pieces.getD k default).Has == w) with
    | true =>
      rw [cond_true]
      cases h2 : ((t.Pieces.getD k default).At == a) with
      | true =>
        rw [cond_true, w1 (by omega), w1 (by omega), ek]
        have q1 : cnt (pA t w z) k + 1 = cnt (pA t w z) (k + 1) := by conv => rhs; unfold cnt
                                                                      unfold pA; rw [h1]; rfl
        have q2 : cnt (pT t w z a) k + 1 = cnt (pT t w z a) (k + 1) := by conv => rhs; unfold cnt
                                                                          unfold pT; rw [h1, h2]; rfl
        rw [q1, q2]; exact e1
      | false =>
        rw [cond_false, w1 (by omega), ek]
        have q1 : cnt (pA t w z) k + 1 = cnt (pA t w z) (k + 1) := by conv => rhs; unfold cnt
                                                                      unfold pA; rw [h1]; rfl
        have q2 : cnt (pT t w z a) k = cnt (pT t w z a) (k + 1) := by conv => rhs; unfold cnt
                                                                      unfold pT; rw [h1, h2]; rfl
        rw [q1, q2]; exact e1
    | false =>
      rw [cond_false, ek]
      have q1 : cnt (pA t w z) k = cnt (pA t w z) (k + 1) := by conv => rhs; unfold cnt
                                                                unfold pA; rw [h1]; rfl
      have q2 : cnt (pT t w z a) k = cnt (pT t w z a) (k + 1) := by conv => rhs; unfold cnt
                                                                    unfold pT; rw [h1]; rfl
      rw [q1, q2]; exact e1

theorem many6_eq (w z a : Int) (h : t.Pieces.length ≤ 1000) : many6 t w z a = ((cnt (pA t w z) t.Pieces.length : Int), (cnt (pT t w z a) t.Pieces.length : Int)) := by
  have := many6_l0_eq t w z a t.Pieces.length 0 (by omega)
  unfold many6
  rw [lE rfl]
  have h0 : many6_l0 t w z a t.Pieces.length 0 0 0 = many6_l0 t w z a t.Pieces.length (cnt (pA t w z) 0) (cnt (pT t w z a) 0) (0 : Nat) := rfl
  rw [h0, this, Nat.zero_add]
  rfl

/-! the document's -/
def okP (i : Nat) : Prop := one6 t i = true ∧ ((t.Pieces.getD i default).Zone = 6 ∨ (t.Pieces.getD i default).Zone = 7 ∨ (cnt (pT t (t.Pieces.getD i default).Has (t.Pieces.getD i default).Zone (t.Pieces.getD i default).At) t.Pieces.length = 1 ∧ (shared6 (t.Pieces.getD i default).Zone = true ∨ (0 ≤ (t.Pieces.getD i default).At ∧ (t.Pieces.getD i default).At < cnt (pA t (t.Pieces.getD i default).Has (t.Pieces.getD i default).Zone) t.Pieces.length))))

theorem may6_l0_iff (hl : t.Pieces.length ≤ 1000) : ∀ (n k : Nat), k + n ≤ 1000 →
    ((∀ i, k ≤ i → i < k + n → okP t i) → may6_l0 t n (cnt (pL t) k) k = Sum.inr ((cnt (pL t) (k + n) : Int), ((k + n : Nat) : Int))) ∧
    ((∃ i, k ≤ i ∧ i < k + n ∧ ¬ okP t i) → may6_l0 t n (cnt (pL t) k) k = Sum.inl false) := by
  intro n
  induction n with
  | zero => intro k h; exact ⟨fun _ => rfl, fun ⟨i, h1, h2, _⟩ => by omega⟩
  | succ n ih =>
    intro k h
    obtain ⟨i1, i2⟩ := ih (k + 1) (by omega)
    have a1 := cnt_le (pL t) k
    have ek : ((k : Int) + 1) = ((k + 1 : Nat) : Int) := by omega
    have ee : k + (n + 1) = k + 1 + n := by omega
    -- a round
    have rnd : (okP t k → may6_l0 t (n + 1) (cnt (pL t) k) k = may6_l0 t n (cnt (pL t) (k + 1)) ((k + 1 : Nat) : Int)) ∧ (¬ okP t k → may6_l0 t (n + 1) (cnt (pL t) k) k = Sum.inl false) := by
      rw [may6_l0]
      simp only [Int.toNat_natCast, many6_eq t _ _ _ hl]
      unfold okP
      cases ho : one6 t k with
      | false => exact ⟨fun h => (by cases h.1), fun _ => rfl⟩
      | true =>
        rw [Bool.not_true, cond_false, lE rfl, lE rfl]
        cases h6 : ((t.Pieces.getD k default).Zone == 6) with
        | true =>
          have h6' : (t.Pieces.getD k default).Zone = 6 := by simpa using h6
          rw [cond_true, w1 (by omega), ek]
          have q1 : cnt (pL t) k + 1 = cnt (pL t) (k + 1) := by conv => rhs; unfold cnt
                                                                unfold pL; rw [h6]; rfl
          rw [q1]
          exact ⟨fun _ => rfl, fun h => absurd ⟨rfl, .inl h6'⟩ h⟩
        | false =>
          have h6' : (t.Pieces.getD k default).Zone ≠ 6 := by simpa using h6
          have q1 : cnt (pL t) k = cnt (pL t) (k + 1) := by conv => rhs; unfold cnt
                                                            unfold pL; rw [h6]; rfl
          rw [cond_false, lE rfl, q1, ek, cond_eq_ite]
          split
          · rename_i hb
            refine ⟨fun h => ?_, fun _ => rfl⟩
            exfalso
            simp only [Bool.and_eq_true, Bool.or_eq_true, Bool.not_eq_true', bne_iff_ne, ne_eq, decide_eq_true_eq] at hb
            obtain ⟨_, h⟩ := h
            rcases h with h | h | ⟨h, h'⟩
            · exact h6' h
            · exact hb.1 h
            · rcases hb.2 with hb | ⟨hb1, hb2⟩
              · exact hb (by omega)
              · rcases h' with h' | h'
                · rw [h'] at hb1; cases hb1
                · omega
          · rename_i hb
            refine ⟨fun _ => rfl, fun h => absurd ⟨rfl, ?_⟩ h⟩
            simp only [Bool.and_eq_true, Bool.or_eq_true, Bool.not_eq_true', bne_iff_ne, ne_eq, decide_eq_true_eq] at hb
            by_cases h7 : (t.Pieces.getD k default).Zone = 7
            · exact .inr (.inl h7)
            · refine .inr (.inr ?_)
              have hb' : ¬ _ := fun q => hb ⟨h7, q⟩
              constructor
              · by_cases q : (cnt (pT t (t.Pieces.getD k default).Has (t.Pieces.getD k default).Zone (t.Pieces.getD k default).At) t.Pieces.length) = 1
                · exact q
                · exact absurd (.inl (by omega)) hb'
              · cases hs : shared6 (t.Pieces.getD k default).Zone with
                | true => exact .inl rfl
                | false =>
                  refine .inr ⟨?_, ?_⟩
                  · by_cases q : 0 ≤ (t.Pieces.getD k default).At
                    · exact q
                    · exact absurd (.inr ⟨hs, .inl (by omega)⟩) hb'
                  · by_cases q : (t.Pieces.getD k default).At < cnt (pA t (t.Pieces.getD k default).Has (t.Pieces.getD k default).Zone) t.Pieces.length
                    · exact q
                    · exact absurd (.inr ⟨hs, .inr (by omega)⟩) hb'
    rw [ee]
    constructor
    · intro ho
      rw [rnd.1 (ho k (Nat.le_refl _) (by omega))]
      exact i1 (fun i h1 h2 => ho i (by omega) (by omega))
    · rintro ⟨i, h1, h2, h3⟩
      by_cases hk : okP t k
      · rw [rnd.1 hk]
        have : i ≠ k := fun e => by subst e; exact h3 hk
        exact i2 ⟨i, by omega, by omega, h3⟩
      · exact rnd.2 hk

def pre6 : Bool := ((((((((decide ((t.Life.1 : Int) < 0)) || (decide ((t.Life.1 : Int) > 99999))) || (decide ((t.Life.2 : Int) < 0))) || (decide ((t.Life.2 : Int) > 99999))) || (decide ((t.Turn : Int) < 1))) || (decide ((t.Player : Int) > 1))) || (decide ((((t.Pieces.length : Nat) : Int) : Int) > 144))))

theorem may6_iff : may6 t = true ↔ pre6 t = false ∧ (∀ i, i < t.Pieces.length → okP t i) ∧ cnt (pL t) t.Pieces.length ≤ 1 := by
  unfold may6
  rw [lE rfl]
  show (bif pre6 t then _ else _) = true ↔ _
  cases hp : pre6 t with
  | true => simp
  | false =>
    have hl : t.Pieces.length ≤ 1000 := by
      unfold pre6 at hp
      simp only [Bool.or_eq_false_iff, decide_eq_false_iff_not] at hp
      omega
    obtain ⟨h1, h2⟩ := may6_l0_iff t hl t.Pieces.length 0 (by omega)
    have h0 : may6_l0 t t.Pieces.length 0 0 = may6_l0 t t.Pieces.length (cnt (pL t) 0) (0 : Nat) := rfl
    rw [cond_false, h0]
    rw [Nat.zero_add] at h1 h2
    by_cases ho : ∀ i, i < t.Pieces.length → okP t i
    · rw [bR (h1 (fun i _ h => ho i h)), lE rfl, lE rfl]
      simp only [decide_eq_true_eq, true_and]
      exact ⟨fun h => ⟨ho, by omega⟩, fun h => by omega⟩
    · rw [bL (h2 (by
        by_cases q : ∃ i, 0 ≤ i ∧ i < t.Pieces.length ∧ ¬ okP t i
        · exact q
        · exact absurd (fun i hi => Classical.byContradiction fun hn => q ⟨i, Nat.zero_le _, hi, hn⟩) ho))]
      exact ⟨fun h => (by cases h), fun h => absurd h.2.1 ho⟩
end
end Go.Jo.S
