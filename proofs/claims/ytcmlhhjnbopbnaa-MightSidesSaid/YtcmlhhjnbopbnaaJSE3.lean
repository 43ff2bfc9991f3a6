/- Walks and plain laws of the program's functions, a part of the proof (YtcmlhhjnbopbnaaJSE3). Conditions: those that each theorem states. -/
import Derived.Test.YtcmlhhjnbopbnaaJSE2
namespace Go.Jo.S
open Go.Jo Go.Proofs
set_option autoImplicit false
set_option linter.all false
section
variable {t : GTable}
theorem kind_eq (t : GTable) (id : Int) : kind6 t id = kind t id := by
  unfold kind6 kind
  simp only [lt, cond_eq_ite]
  split
  · rfl
  · simp only [Bool.or_eq_true, Bool.and_eq_true, decide_eq_true_eq]
    split <;> split <;> first | rfl | omega

theorem shared_iff (z : Int) : shared z = true ↔ z = 2 ∨ z = 3 ∨ z = 6 := by
  unfold shared; simp only [Bool.or_eq_true, beq_iff_eq, or_assoc]
theorem shared6_iff (z : Int) : shared6 z = true ↔ z = 2 ∨ z = 3 ∨ z = 6 := by
  unfold shared6; simp only [Bool.or_eq_true, beq_iff_eq, or_assoc]
theorem shared_f (z : Int) : shared z = false ↔ z ≠ 2 ∧ z ≠ 3 ∧ z ≠ 6 := by
  have := shared_iff z
  cases h : shared z with
  | true => have := this.1 h; exact ⟨fun q => (by cases q), fun q => (by omega)⟩
  | false => exact ⟨fun _ => ⟨fun q => (by rw [this.2 (.inl q)] at h; cases h), fun q => (by rw [this.2 (.inr (.inl q))] at h; cases h), fun q => (by rw [this.2 (.inr (.inr q))] at h; cases h)⟩, fun _ => rfl⟩
theorem shared6_f (z : Int) : shared6 z = false ↔ z ≠ 2 ∧ z ≠ 3 ∧ z ≠ 6 := by
  have := shared6_iff z
  cases h : shared6 z with
  | true => have := this.1 h; exact ⟨fun q => (by cases q), fun q => (by omega)⟩
  | false => exact ⟨fun _ => ⟨fun q => (by rw [this.2 (.inl q)] at h; cases h), fun q => (by rw [this.2 (.inr (.inl q))] at h; cases h), fun q => (by rw [this.2 (.inr (.inr q))] at h; cases h)⟩, fun _ => rfl⟩
theorem within_iff (n m : Int) : within n m = true ↔ 0 ≤ n ∧ n ≤ m := by
  unfold within; simp

def stP (z d a k : Int) : Prop := (z = 2 ∧ k = 0 ∧ 0 ≤ a ∧ a ≤ 4) ∨ (z = 3 ∧ k ≠ 0 ∧ 0 ≤ a ∧ a ≤ 4) ∨ (z = 6 ∧ k = 0 ∧ d ≠ -1 ∧ a = 0) ∨ (z = 7 ∧ d = -1 ∧ a = 0) ∨ (z ≠ 2 ∧ z ≠ 3 ∧ z ≠ 6 ∧ z ≠ 7 ∧ d ≠ -1 ∧ z < 7 ∧ 0 ≤ a)
theorem stands_iff (t : GTable) (i : Nat) : stands t i = true ↔ stP (t.Pieces.getD i default).Zone (t.Pieces.getD i default).Def (t.Pieces.getD i default).At (kind t i) := by
  unfold stands stP
  simp only [Int.toNat_natCast, lt, cond_eq_ite, beq_iff_eq]
  split
  · simp only [Bool.and_eq_true, beq_iff_eq, within_iff]; omega
  · split
    · simp only [Bool.and_eq_true, beq_iff_eq, within_iff, Bool.not_eq_true', beq_eq_false_iff_ne, ne_eq]; omega
    · split
      · simp only [Bool.and_eq_true, beq_iff_eq, Bool.not_eq_true', beq_eq_false_iff_ne, ne_eq]; omega
      · split
        · simp only [Bool.and_eq_true, beq_iff_eq]; omega
        · simp only [Bool.and_eq_true, beq_iff_eq, Bool.not_eq_true', beq_eq_false_iff_ne, ne_eq, decide_eq_true_eq, ge_iff_le]; omega

def pcP (t : GTable) (i : Nat) : Prop := -1 ≤ (t.Pieces.getD i default).Def ∧ (t.Pieces.getD i default).Def < t.Kinds.length ∧ (t.Pieces.getD i default).Owner ≤ 1 ∧ (t.Pieces.getD i default).Has ≤ 1 ∧ ((t.Pieces.getD i default).Owner = (t.Pieces.getD i default).Has ∨ shared (t.Pieces.getD i default).Zone = true) ∧ 0 ≤ (t.Pieces.getD i default).Attack ∧ (t.Pieces.getD i default).Attack ≤ 99999 ∧ 0 ≤ (t.Pieces.getD i default).Guard ∧ (t.Pieces.getD i default).Guard ≤ 99999

theorem badM_iff (t : GTable) (i : Nat) : badM t i = false ↔ pcP t i ∧ stands t i = true := by
  have e : badM t i = false ↔ ¬ (badM t i = true) := by simp
  rw [e]
  unfold badM pcP
  simp only [Bool.or_eq_true, Bool.and_eq_true, decide_eq_true_eq, bne_iff_ne, ne_eq, Bool.not_eq_true', ge_iff_le, gt_iff_lt]
  have h1 := within_iff (t.Pieces.getD i default).Attack 99999
  have h2 := within_iff (t.Pieces.getD i default).Guard 99999
  cases hs : shared (t.Pieces.getD i default).Zone <;> cases hw : within (t.Pieces.getD i default).Attack 99999 <;> cases hw2 : within (t.Pieces.getD i default).Guard 99999 <;> cases hst : stands t i <;> simp_all <;> omega

theorem one6_iff (t : GTable) (i : Nat) : one6 t i = true ↔ pcP t i ∧ (t.Pieces.getD i default).Zone ≤ 7 ∧ ((t.Pieces.getD i default).Zone = 2 ∨ (t.Pieces.getD i default).Zone = 3 → 0 ≤ (t.Pieces.getD i default).At ∧ (t.Pieces.getD i default).At < 5) ∧ ((t.Pieces.getD i default).Zone = 6 ∨ (t.Pieces.getD i default).Zone = 7 → (t.Pieces.getD i default).At = 0) ∧ ((t.Pieces.getD i default).Zone = 2 ∨ (t.Pieces.getD i default).Zone = 6 → kind t i = 0) ∧ ((t.Pieces.getD i default).Zone = 3 → kind t i ≠ 0) ∧ ((t.Pieces.getD i default).Def = -1 → (t.Pieces.getD i default).Zone = 2 ∨ (t.Pieces.getD i default).Zone = 7) ∧ ((t.Pieces.getD i default).Def ≠ -1 → (t.Pieces.getD i default).Zone ≠ 7) := by
  unfold one6 pcP
  rw [shared_iff]
  simp only [Int.toNat_natCast, lt, cond_eq_ite, kind_eq]
  have hs := shared6_f (t.Pieces.getD i default).Zone
  simp only [Bool.or_eq_true, Bool.and_eq_true, decide_eq_true_eq, bne_iff_ne, ne_eq, Bool.not_eq_true', ge_iff_le, gt_iff_lt, beq_iff_eq, hs, beq_eq_false_iff_ne]
  split
  · constructor
    · intro h; cases h
    · intro h; omega
  · split
    · constructor
      · intro h; cases h
      · intro h; omega
    · split
      · split
        · constructor
          · intro h; cases h
          · intro h; omega
        · split
          · constructor
            · intro h; cases h
            · intro h; omega
          · split
            · simp only [Bool.or_eq_true, beq_iff_eq]; omega
            · simp only [bne_iff_ne, ne_eq]; omega
      · split
        · constructor
          · intro h; cases h
          · intro h; omega
        · split
          · simp only [Bool.or_eq_true, beq_iff_eq]; omega
          · simp only [bne_iff_ne, ne_eq]; omega

theorem kind_neg (t : GTable) (i : Nat) : (t.Pieces.getD i default).Def = -1 → kind t i = 0 := by
  intro h
  unfold kind
  simp only [lt, cond_eq_ite, Int.toNat_natCast]
  split
  · rfl
  · rw [if_neg]
    simp only [Bool.and_eq_true, decide_eq_true_eq]
    omega

theorem piece_iff (t : GTable) (i : Nat) : badM t i = false ↔ one6 t i = true ∧ (shared6 (t.Pieces.getD i default).Zone = false → (t.Pieces.getD i default).Zone ≠ 7 → 0 ≤ (t.Pieces.getD i default).At) := by
  rw [badM_iff, one6_iff, stands_iff, shared6_f]
  unfold stP
  have hk := kind_neg t i
  revert hk
  generalize pcP t i = A
  generalize (t.Pieces.getD i default).Zone = z
  generalize (t.Pieces.getD i default).Def = d
  generalize (t.Pieces.getD i default).At = a
  generalize kind t i = k
  intro hk
  constructor
  · rintro ⟨h1, h2⟩
    refine ⟨⟨h1, ?_, ?_, ?_, ?_, ?_, ?_, ?_⟩, ?_⟩
    · omega
    · intro h; omega
    · intro h; omega
    · intro h; omega
    · intro h; omega
    · intro h; have := hk h; omega
    · intro h; omega
    · intro h h'; omega
  · rintro ⟨⟨h1, h2, h3, h4, h5, h6, h7, h8⟩, h9⟩
    refine ⟨h1, ?_⟩
    by_cases z2 : z = 2
    · have q1 := h3 (.inl z2); have q2 := h5 (.inl z2); exact .inl ⟨z2, q2, by omega, by omega⟩
    by_cases z3 : z = 3
    · have q1 := h3 (.inr z3); have q2 := h6 z3; exact .inr (.inl ⟨z3, q2, by omega, by omega⟩)
    by_cases z6 : z = 6
    · exact .inr (.inr (.inl ⟨z6, h5 (.inr z6), fun hd => (by have := h7 hd; omega), h4 (.inl z6)⟩))
    by_cases z7 : z = 7
    · exact .inr (.inr (.inr (.inl ⟨z7, Classical.byContradiction fun hd => h8 hd z7, h4 (.inr z7)⟩)))
    · exact .inr (.inr (.inr (.inr ⟨z2, z3, z6, z7, fun hd => (by have := h7 hd; omega), by omega, h9 ⟨z2, z3, z6⟩ z7⟩)))

theorem preM_iff (t : GTable) : preM t = pre6 t := by
  have h : preM t = false ↔ pre6 t = false := by
    unfold preM pre6
    have h1 := within_iff t.Life.1 99999
    have h2 := within_iff t.Life.2 99999
    simp only [Bool.or_eq_false_iff, decide_eq_false_iff_not, Bool.not_eq_false', h1, h2]
    omega
  cases h1 : preM t <;> cases h2 : pre6 t <;> simp_all

theorem sp_ne {i : Nat} (h : (t.Pieces.getD i default).Zone ≠ 6) : sp t i = ⟨(t.Pieces.getD i default).Has, (t.Pieces.getD i default).Zone, (t.Pieces.getD i default).At⟩ := by
  unfold sp
  have : ((t.Pieces.getD i default).Zone == 6) = false := by simpa using h
  rw [this]; rfl
theorem sp_6 {i : Nat} (h : (t.Pieces.getD i default).Zone = 6) : sp t i = ⟨0, (t.Pieces.getD i default).Zone, (t.Pieces.getD i default).At⟩ := by
  unfold sp
  have : ((t.Pieces.getD i default).Zone == 6) = true := by simpa using h
  rw [this]; rfl
theorem sp_zone (i : Nat) : (sp t i).zone = (t.Pieces.getD i default).Zone := by
  unfold sp; cases ((t.Pieces.getD i default).Zone == 6) <;> rfl
theorem sp_at (i : Nat) : (sp t i).at_ = (t.Pieces.getD i default).At := by
  unfold sp; cases ((t.Pieces.getD i default).Zone == 6) <;> rfl

theorem pg_eq {i : Nat} (h : ng t i) : pg t (gp t i) = pA t (t.Pieces.getD i default).Has (t.Pieces.getD i default).Zone := by
  funext j
  have hz := (shared_f _).1 h.2
  have e : pg t (gp t i) j = true ↔ pA t (t.Pieces.getD i default).Has (t.Pieces.getD i default).Zone j = true := by
    simp only [pg, pA, decide_eq_true_eq, Bool.and_eq_true, beq_iff_eq]
    constructor
    · rintro ⟨h1, h2⟩
      have hz2 := (shared_f _).1 h1.2
      unfold gp at h2
      rw [sp_ne hz.2.2, sp_ne hz2.2.2] at h2
      simp only [Gspot.mk.injEq, and_true] at h2
      exact ⟨h2.2, h2.1⟩
    · rintro ⟨h1, h2⟩
      have hj : ng t j := ⟨by unfold nz; rw [h1]; exact h.1, by rw [h1]; exact h.2⟩
      refine ⟨hj, ?_⟩
      unfold gp
      rw [sp_ne hz.2.2, sp_ne (by rw [h1]; exact hz.2.2), h1, h2]
  cases h1 : pg t (gp t i) j <;> cases h2 : pA t (t.Pieces.getD i default).Has (t.Pieces.getD i default).Zone j <;> simp_all

theorem may_eq (t : GTable) : may t = may6 t := by
  have key : may t = true ↔ may6 t = true := by
    rw [may_iff, may6_iff, preM_iff]
    refine and_congr_right (fun _ => ?_)
    constructor
    · rintro ⟨h1, h2⟩
      have hone : ∀ i, i < t.Pieces.length → one6 t i = true := fun i hi => ((piece_iff t i).1 (h1 i hi).1).1
      have dist : ∀ i j, i < j → j < t.Pieces.length → nz t i → nz t j → sp t i ≠ sp t j := fun i j hij hj hi' hj' => (h1 j hj).2 hj' i hij hi'
      refine ⟨fun i hi => ⟨hone i hi, ?_⟩, ?_⟩
      · by_cases h6 : (t.Pieces.getD i default).Zone = 6
        · exact .inl h6
        · by_cases h7 : (t.Pieces.getD i default).Zone = 7
          · exact .inr (.inl h7)
          · refine .inr (.inr ⟨?_, ?_⟩)
            · have a1 : cnt (pT t (t.Pieces.getD i default).Has (t.Pieces.getD i default).Zone (t.Pieces.getD i default).At) t.Pieces.length ≤ 1 := by
                refine cnt_one (fun j k hjk hk pj pk => ?_)
                simp only [pT, Bool.and_eq_true, beq_iff_eq] at pj pk
                refine dist j k hjk hk (by unfold nz; rw [pj.1.1]; exact h7) (by unfold nz; rw [pk.1.1]; exact h7) ?_
                rw [sp_ne (by rw [pj.1.1]; exact h6), sp_ne (by rw [pk.1.1]; exact h6), pj.1.1, pj.1.2, pj.2, pk.1.1, pk.1.2, pk.2]
              have a2 := cnt_pos (p := pT t (t.Pieces.getD i default).Has (t.Pieces.getD i default).Zone (t.Pieces.getD i default).At) (i := i) (by simp [pT]) hi
              omega
            · cases hs : shared6 (t.Pieces.getD i default).Zone with
              | true => exact .inl rfl
              | false =>
                have hn : ng t i := ⟨h7, (shared_f _).2 ((shared6_f _).1 hs)⟩
                have := h2 i hi hn
                rw [pg_eq hn] at this
                exact .inr ⟨((piece_iff t i).1 (h1 i hi).1).2 hs h7, this⟩
      · refine cnt_one (fun i j hij hj pi pj => ?_)
        simp only [pL, beq_iff_eq] at pi pj
        refine dist i j hij hj (by unfold nz; omega) (by unfold nz; omega) ?_
        have o1 := ((one6_iff t i).1 (hone i (by omega))).2.2.2.1 (.inl pi)
        have o2 := ((one6_iff t j).1 (hone j hj)).2.2.2.1 (.inl pj)
        rw [sp_6 pi, sp_6 pj, pi, pj, o1, o2]
    · rintro ⟨h1, h2⟩
      have hz : ∀ i, i < t.Pieces.length → shared6 (t.Pieces.getD i default).Zone = false → (t.Pieces.getD i default).Zone ≠ 7 → 0 ≤ (t.Pieces.getD i default).At ∧ (t.Pieces.getD i default).At < cnt (pA t (t.Pieces.getD i default).Has (t.Pieces.getD i default).Zone) t.Pieces.length := fun i hi hs h7 => by
        rcases (h1 i hi).2 with h | h | ⟨_, h⟩
        · have := (shared6_f _).1 hs; omega
        · exact absurd h h7
        · rcases h with h | h
          · rw [hs] at h; cases h
          · exact h
      refine ⟨fun i hi => ⟨(piece_iff t i).2 ⟨(h1 i hi).1, fun hs h7 => (hz i hi hs h7).1⟩, fun hn j hji hnj he => ?_⟩, fun i hi hn => ?_⟩
      · have ez := congrArg Gspot.zone he
        have ea := congrArg Gspot.at_ he
        rw [sp_zone, sp_zone] at ez
        rw [sp_at, sp_at] at ea
        by_cases h6 : (t.Pieces.getD i default).Zone = 6
        · have := cnt_two (p := pL t) (i := j) (j := i) (by unfold pL; rw [ez, h6]; rfl) (by unfold pL; rw [h6]; rfl) hji hi
          omega
        · rw [sp_ne h6, sp_ne (by rw [ez]; exact h6)] at he
          simp only [Gspot.mk.injEq] at he
          rcases (h1 i hi).2 with h | h | ⟨h, _⟩
          · exact h6 h
          · exact hn h
          · have := cnt_two (p := pT t (t.Pieces.getD i default).Has (t.Pieces.getD i default).Zone (t.Pieces.getD i default).At) (i := j) (j := i) (by unfold pT; rw [he.1, he.2.1, he.2.2]; simp only [beq_self_eq_true, Bool.and_self]) (by simp [pT]) hji hi
            omega
      · rw [pg_eq hn]
        exact (hz i hi ((shared6_f _).2 ((shared_f _).1 hn.2)) hn.1).2
  cases h1 : may t <;> cases h2 : may6 t <;> simp_all
end
end Go.Jo.S
