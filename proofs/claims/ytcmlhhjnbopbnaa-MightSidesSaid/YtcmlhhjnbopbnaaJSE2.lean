/- Walks and plain laws of the program's functions, a part of the proof (YtcmlhhjnbopbnaaJSE2). Conditions: those that each theorem states. -/
import Derived.Test.YtcmlhhjnbopbnaaJSE1
namespace Go.Jo.S
open Go.Jo Go.Proofs
set_option autoImplicit false
set_option linter.all false
section
variable (t : GTable)
def sp (i : Nat) : Gspot := bif ((t.Pieces.getD i default).Zone == 6) then ⟨0, (t.Pieces.getD i default).Zone, (t.Pieces.getD i default).At⟩ else ⟨(t.Pieces.getD i default).Has, (t.Pieces.getD i default).Zone, (t.Pieces.getD i default).At⟩
def gp (i : Nat) : Gspot := ⟨(sp t i).who, (sp t i).zone, 0⟩
def nz (i : Nat) : Prop := (t.Pieces.getD i default).Zone ≠ 7
def ng (i : Nat) : Prop := nz t i ∧ shared (t.Pieces.getD i default).Zone = false
def badM (i : Nat) : Bool := ((((((((decide (((t.Pieces.getD i default).Def : Int) < (-1))) || (decide (((t.Pieces.getD i default).Def : Int) ≥ ((t.Kinds.length : Nat) : Int)))) || (decide (((t.Pieces.getD i default).Owner : Int) > 1))) || (decide (((t.Pieces.getD i default).Has : Int) > 1))) || ((((t.Pieces.getD i default).Owner) != ((t.Pieces.getD i default).Has)) && (!(shared ((t.Pieces.getD i default).Zone))))) || (!(within ((t.Pieces.getD i default).Attack) 99999))) || (!(within ((t.Pieces.getD i default).Guard) 99999))) || (!(stands t i)))
def okM (i : Nat) : Prop := badM t i = false ∧ (nz t i → ∀ j, j < i → nz t j → sp t j ≠ sp t i)
open Classical in
noncomputable def pg (g : Gspot) (i : Nat) : Bool := decide (ng t i ∧ gp t i = g)

structure Inv (k : Nat) (v2 v4 : Gspot → Int) (v5 : Gspot → Bool) (v6 : Gspot → Int) : Prop where
  i2 : ∀ s, 0 ≤ v2 s ∧ v2 s ≤ k ∧ (0 < v2 s ↔ ∃ i, i < k ∧ nz t i ∧ sp t i = s)
  i4 : ∀ g M, v4 g < M ↔ 0 < M ∧ ∀ i, i < k → ng t i → gp t i = g → (t.Pieces.getD i default).At < M
  i5 : ∀ g, v5 g = true ↔ ∃ i, i < k ∧ ng t i ∧ gp t i = g
  i6 : ∀ g, v6 g = cnt (pg t g) k

theorem allK_iff {α : Type} {s ok : α → Bool} : allK s ok = true ↔ ∀ k, s k = true → ok k = true := by
  constructor
  · intro h k hk
    cases ho : ok k with
    | true => rfl
    | false => rw [allK_false hk ho] at h; cases h
  · exact allK_true
variable {t}
theorem ex_succ {p : Nat → Prop} {k : Nat} : (∃ i, i < k + 1 ∧ p i) ↔ (∃ i, i < k ∧ p i) ∨ p k := by
  constructor
  · rintro ⟨i, h1, h2⟩
    by_cases e : i = k
    · subst e; exact .inr h2
    · exact .inl ⟨i, by omega, h2⟩
  · rintro (⟨i, h1, h2⟩ | h)
    · exact ⟨i, by omega, h2⟩
    · exact ⟨k, by omega, h⟩
theorem all_succ {p : Nat → Prop} {k : Nat} : (∀ i, i < k + 1 → p i) ↔ (∀ i, i < k → p i) ∧ p k := by
  constructor
  · exact fun h => ⟨fun i hi => h i (by omega), h k (by omega)⟩
  · rintro ⟨h1, h2⟩ i hi
    by_cases e : i = k
    · subst e; exact h2
    · exact h1 i (by omega)

theorem upd_same {α β : Type} (v : α → β) (k : α) (x : β) : upd v k x k = x := by simp [upd]
theorem upd_ne {α β : Type} (v : α → β) {k j : α} (x : β) (h : j ≠ k) : upd v k x j = v j := by simp [upd, h]

/-- what a piece adds to 'taken' -/
theorem Inv.two {k : Nat} {v2 : Gspot → Int} (i2 : ∀ s, 0 ≤ v2 s ∧ v2 s ≤ k ∧ (0 < v2 s ↔ ∃ i, i < k ∧ nz t i ∧ sp t i = s)) (hn : nz t k) (h0 : ¬ 0 < v2 (sp t k)) :
    ∀ s, 0 ≤ upd v2 (sp t k) (IntKind.i64.wrap (v2 (sp t k) + 1)) s ∧ upd v2 (sp t k) (IntKind.i64.wrap (v2 (sp t k) + 1)) s ≤ ((k + 1 : Nat) : Int) ∧ (0 < upd v2 (sp t k) (IntKind.i64.wrap (v2 (sp t k) + 1)) s ↔ ∃ i, i < k + 1 ∧ nz t i ∧ sp t i = s) := by
  intro s
  obtain ⟨a1, a2, a3⟩ := i2 s
  have hz : v2 (sp t k) = 0 := by have := (i2 (sp t k)).1; omega
  rw [hz, w64 (by omega) (by omega)]
  by_cases e : s = sp t k
  · subst e
    rw [upd_same]
    exact ⟨by omega, by omega, fun _ => ⟨k, by omega, hn, rfl⟩, fun _ => by omega⟩
  · rw [upd_ne _ _ e]
    refine ⟨a1, by omega, ?_⟩
    rw [a3, ex_succ]
    exact ⟨.inl, fun h => h.elim id (fun h => absurd h.2.symm e)⟩

theorem Inv.skip {k : Nat} {v2 v4 v6 : Gspot → Int} {v5 : Gspot → Bool} (h : Inv t k v2 v4 v5 v6) (hn : ¬ nz t k) : Inv t (k + 1) v2 v4 v5 v6 where
  i2 s := by
    obtain ⟨a1, a2, a3⟩ := h.i2 s
    refine ⟨a1, by omega, ?_⟩
    rw [a3, ex_succ]
    exact ⟨.inl, fun h => h.elim id (fun h => absurd h.1 hn)⟩
  i4 g M := by
    rw [h.i4, all_succ]
    exact ⟨fun q => ⟨q.1, q.2, fun q => absurd q.1 hn⟩, fun q => ⟨q.1, q.2.1⟩⟩
  i5 g := by
    rw [h.i5, ex_succ]
    exact ⟨.inl, fun h => h.elim id (fun h => absurd h.1.1 hn)⟩
  i6 g := by
    rw [h.i6]
    have : pg t g k = false := by simp [pg, ng, hn]
    conv => rhs; unfold cnt
    rw [this]; rfl

theorem Inv.shar {k : Nat} {v2 v4 v6 : Gspot → Int} {v5 : Gspot → Bool} (h : Inv t k v2 v4 v5 v6) (hn : nz t k) (h0 : ¬ 0 < v2 (sp t k)) (hs : ¬ ng t k) : Inv t (k + 1) (upd v2 (sp t k) (IntKind.i64.wrap (v2 (sp t k) + 1))) v4 v5 v6 where
  i2 := Inv.two h.i2 hn h0
  i4 g M := by
    rw [h.i4, all_succ]
    exact ⟨fun q => ⟨q.1, q.2, fun q => absurd q hs⟩, fun q => ⟨q.1, q.2.1⟩⟩
  i5 g := by
    rw [h.i5, ex_succ]
    exact ⟨.inl, fun h => h.elim id (fun h => absurd h.1 hs)⟩
  i6 g := by
    rw [h.i6]
    have : pg t g k = false := by simp [pg, hs]
    conv => rhs; unfold cnt
    rw [this]; rfl

theorem Inv.own {k : Nat} {v2 v4 v6 : Gspot → Int} {v5 : Gspot → Bool} (h : Inv t k v2 v4 v5 v6) (hk : k ≤ 1000) (hn : nz t k) (h0 : ¬ 0 < v2 (sp t k)) (hs : ng t k) :
    Inv t (k + 1) (upd v2 (sp t k) (IntKind.i64.wrap (v2 (sp t k) + 1))) (upd v4 (gp t k) (if (t.Pieces.getD k default).At > v4 (gp t k) then (t.Pieces.getD k default).At else v4 (gp t k))) (upd v5 (gp t k) true) (upd v6 (gp t k) (IntKind.i64.wrap (v6 (gp t k) + 1))) where
  i2 := Inv.two h.i2 hn h0
  i4 g M := by
    rw [all_succ]
    by_cases e : g = gp t k
    · subst e
      rw [upd_same]
      have h4 := h.i4 (gp t k) M
      constructor
      · intro q
        have h1 : v4 (gp t k) < M := by split at q <;> omega
        have h2 : (t.Pieces.getD k default).At < M := by split at q <;> omega
        exact ⟨(h4.1 h1).1, (h4.1 h1).2, fun _ _ => h2⟩
      · rintro ⟨q1, q2, q3⟩
        have h1 := h4.2 ⟨q1, q2⟩
        have h2 := q3 hs rfl
        split <;> omega
    · rw [upd_ne _ _ e, h.i4]
      exact ⟨fun q => ⟨q.1, q.2, fun _ q => absurd q.symm e⟩, fun q => ⟨q.1, q.2.1⟩⟩
  i5 g := by
    rw [ex_succ]
    by_cases e : g = gp t k
    · subst e
      rw [upd_same]
      exact ⟨fun _ => .inr ⟨hs, rfl⟩, fun _ => rfl⟩
    · rw [upd_ne _ _ e, h.i5]
      exact ⟨.inl, fun h => h.elim id (fun h => absurd h.2.symm e)⟩
  i6 g := by
    by_cases e : g = gp t k
    · subst e
      have : pg t (gp t k) k = true := by simp [pg, hs]
      have hc := cnt_le (pg t (gp t k)) k
      rw [upd_same, h.i6, w1 (by omega)]
      conv => rhs; unfold cnt
      rw [this]; rfl
    · have : pg t g k = false := by simp [pg, Ne.symm e]
      rw [upd_ne _ _ e, h.i6]
      conv => rhs; unfold cnt
      rw [this]; rfl

theorem may_l0_iff : ∀ (n k : Nat) {v2 v4 v6 : Gspot → Int} {v3 v5 v7 : Gspot → Bool}, k + n ≤ 1000 → Inv t k v2 v4 v5 v6 →
    ((∀ i, k ≤ i → i < k + n → okM t i) → ∃ (v2' v4' v6' : Gspot → Int) (v3' v5' v7' : Gspot → Bool), may_l0 t n k v2 v3 v4 v5 v6 v7 = Sum.inr (((k + n : Nat) : Int), v2', v3', v4', v5', v6', v7') ∧ Inv t (k + n) v2' v4' v5' v6') ∧
    ((∃ i, k ≤ i ∧ i < k + n ∧ ¬ okM t i) → may_l0 t n k v2 v3 v4 v5 v6 v7 = Sum.inl false) := by
  intro n
  induction n with
  | zero => intro k v2 v4 v6 v3 v5 v7 h hI; exact ⟨fun _ => ⟨v2, v4, v6, v3, v5, v7, rfl, hI⟩, fun ⟨i, h1, h2, _⟩ => by omega⟩
  | succ n ih =>
    intro k v2 v4 v6 v3 v5 v7 h hI
    have ek : ((k : Int) + 1) = ((k + 1 : Nat) : Int) := by omega
    have ee : k + (n + 1) = k + 1 + n := by omega
    have rnd : (okM t k → ∃ (v2' v4' v6' : Gspot → Int) (v3' v5' v7' : Gspot → Bool), may_l0 t (n + 1) k v2 v3 v4 v5 v6 v7 = may_l0 t n ((k + 1 : Nat) : Int) v2' v3' v4' v5' v6' v7' ∧ Inv t (k + 1) v2' v4' v5' v6') ∧ (¬ okM t k → may_l0 t (n + 1) k v2 v3 v4 v5 v6 v7 = Sum.inl false) := by
      rw [may_l0]
      simp only [Int.toNat_natCast]
      rw [lE rfl]
      show (okM t k → ∃ (v2' v4' v6' : Gspot → Int) (v3' v5' v7' : Gspot → Bool), (bif badM t k then _ else lt (sp t k) _) = _ ∧ _) ∧ (¬ okM t k → (bif badM t k then _ else lt (sp t k) _) = _)
      cases hb : badM t k with
      | true => exact ⟨fun h => (by rw [h.1] at hb; cases hb), fun _ => rfl⟩
      | false =>
        rw [cond_false, lE rfl]
        cases h7 : ((t.Pieces.getD k default).Zone == 7) with
        | true =>
          have h7' : ¬ nz t k := fun q => q (by simpa using h7)
          rw [cond_true, ek]
          exact ⟨fun _ => ⟨v2, v4, v6, v3, v5, v7, rfl, hI.skip h7'⟩, fun q => absurd ⟨hb, fun q => absurd q h7'⟩ q⟩
        | false =>
          have h7' : nz t k := by simpa [nz] using h7
          rw [cond_false]
          cases hd : decide (v2 (sp t k) > 0) with
          | true =>
            rw [cond_true]
            refine ⟨fun q => ?_, fun _ => rfl⟩
            obtain ⟨j, j1, j2, j3⟩ := (hI.i2 (sp t k)).2.2.1 (by simpa using hd)
            exact absurd j3 (q.2 h7' j j1 j2)
          | false =>
            have hd' : ¬ 0 < v2 (sp t k) := by simpa using hd
            have hok : okM t k := ⟨hb, fun _ j j1 j2 j3 => hd' ((hI.i2 (sp t k)).2.2.2 ⟨j, j1, j2, j3⟩)⟩
            rw [cond_false, ek]
            refine ⟨fun _ => ?_, fun q => absurd hok q⟩
            cases hs : shared (t.Pieces.getD k default).Zone with
            | true => exact ⟨_, _, _, _, _, _, rfl, hI.shar h7' hd' (fun q => by rw [q.2] at hs; cases hs)⟩
            | false => exact ⟨_, _, _, _, _, _, rfl, hI.own (by omega) h7' hd' ⟨h7', hs⟩⟩
    rw [ee]
    constructor
    · intro ho
      obtain ⟨v2', v4', v6', v3', v5', v7', e1, e2⟩ := rnd.1 (ho k (Nat.le_refl _) (by omega))
      rw [e1]
      exact (ih (k + 1) (by omega) e2).1 (fun i h1 h2 => ho i (by omega) (by omega))
    · rintro ⟨i, h1, h2, h3⟩
      by_cases hk : okM t k
      · obtain ⟨v2', v4', v6', v3', v5', v7', e1, e2⟩ := rnd.1 hk
        rw [e1]
        have : i ≠ k := fun e => by subst e; exact h3 hk
        exact (ih (k + 1) (by omega) e2).2 ⟨i, by omega, by omega, h3⟩
      · exact rnd.2 hk

theorem inv0 : Inv t 0 (fun _ => 0) (fun _ => 0) (fun _ => false) (fun _ => 0) where
  i2 s := ⟨by simp, by simp, fun h => by simp at h, fun ⟨i, h, _⟩ => by omega⟩
  i4 g M := ⟨fun h => ⟨h, fun i hi => by omega⟩, fun h => h.1⟩
  i5 g := ⟨fun h => by simp at h, fun ⟨i, h, _⟩ => by omega⟩
  i6 g := rfl

variable (t)
def preM : Bool := (((((!(within t.Life.1 99999)) || (!(within t.Life.2 99999))) || (decide ((t.Turn : Int) < 1))) || (decide ((t.Player : Int) > 1))) || (decide ((((t.Pieces.length : Nat) : Int) : Int) > 144)))

theorem may_iff : may t = true ↔ preM t = false ∧ (∀ i, i < t.Pieces.length → okM t i) ∧ ∀ i, i < t.Pieces.length → ng t i → (t.Pieces.getD i default).At < cnt (pg t (gp t i)) t.Pieces.length := by
  unfold may
  rw [lE rfl]
  show (bif preM t then _ else _) = true ↔ _
  cases hp : preM t with
  | true => simp
  | false =>
    have hl : t.Pieces.length ≤ 1000 := by
      unfold preM at hp
      simp only [Bool.or_eq_false_iff, decide_eq_false_iff_not] at hp
      omega
    obtain ⟨h1, h2⟩ := may_l0_iff (t := t) t.Pieces.length 0 (v3 := fun _ => false) (v7 := fun _ => false) (by omega) inv0
    have z0 : ((0 : Nat) : Int) = 0 := rfl
    rw [Nat.zero_add, z0] at h1 h2
    rw [cond_false]
    by_cases ho : ∀ i, i < t.Pieces.length → okM t i
    · obtain ⟨v2', v4', v6', v3', v5', v7', e1, e2⟩ := h1 (fun i _ h => ho i h)
      rw [bR e1]
      show allK v5' (fun k => !(decide (v4' k ≥ v6' k))) = true ↔ _
      simp only [true_and]
      constructor
      · intro h
        refine ⟨ho, fun i hi hn => ?_⟩
        have := (allK_iff.1 h) (gp t i) ((e2.i5 (gp t i)).2 ⟨i, hi, hn, rfl⟩)
        simp only [Bool.not_eq_true', decide_eq_false_iff_not] at this
        rw [← e2.i6]
        exact ((e2.i4 (gp t i) (v6' (gp t i))).1 (by omega)).2 i hi hn rfl
      · rintro ⟨_, h⟩
        refine allK_true (fun g hg => ?_)
        obtain ⟨i, hi, hn, rfl⟩ := (e2.i5 g).1 hg
        simp only [Bool.not_eq_true', decide_eq_false_iff_not]
        have : v4' (gp t i) < v6' (gp t i) := by
          rw [e2.i4, e2.i6]
          refine ⟨?_, fun j hj hnj hgj => ?_⟩
          · have : pg t (gp t i) i = true := by simp [pg, hn]
            have := cnt_pos this hi
            omega
          · have := h j hj hnj
            rw [hgj] at this
            exact this
        omega
    · have e1 := h2 (by
        by_cases q : ∃ i, 0 ≤ i ∧ i < t.Pieces.length ∧ ¬ okM t i
        · exact q
        · exact absurd (fun i hi => Classical.byContradiction fun hn => q ⟨i, Nat.zero_le _, hi, hn⟩) ho)
      rw [bL e1]
      exact ⟨fun h => (by cases h), fun h => absurd h.2.1 ho⟩
end
end Go.Jo.S
