/- Walks and plain laws of the program's functions, a part of the proof (YtcmlhhjnbopbnaaJSE4). Conditions: those that each theorem states. -/
import Derived.Test.YtcmlhhjnbopbnaaJSE3
import Derived.Test.YtcmlhhjnbopbnaaJSC6
namespace Go.Jo.S
open Go.Jo Go.Proofs
set_option autoImplicit false
set_option linter.all false
theorem may_table : may table7 = true := by rw [may_eq]; kernel_rfl
theorem known_table (id : Int) : known7 table7 id = (decide (id ≥ 0) && decide (id < ((table7.Pieces.length : Nat) : Int))) := by
  unfold known7
  rw [lE rfl, may_table, Bool.and_true]
theorem lives7_true : lives7 = true := by
  unfold lives7 attack7 might7
  simp only [known_table]
  kernel_rfl

/-- The pieces' numbers are what bytes hold. -/
def tabOK (t : GTable) : Prop := ∀ i, i < t.Pieces.length → 0 ≤ (t.Pieces.getD i default).Has

theorem sides_true {t : GTable} {who from_ id zone kind : Int} (ht : tabOK t) (h0 : 0 ≤ who) : sides t who from_ id zone kind = true := by
  unfold sides
  rw [lives7_true]
  cases hg : great7 t with
  | true => rfl
  | false =>
    rw [cond_false]
    obtain ⟨w, hw⟩ : ∃ w, w = who.tmod 2 := ⟨_, rfl⟩
    rw [← hw]
    have hw01 : w = 0 ∨ w = 1 := by
      have := Int.tmod_nonneg 2 h0
      have := Int.tmod_lt_of_pos who (by omega : (0 : Int) < 2)
      omega
    unfold might7
    simp only [lt]
    cases hk : known7 t id with
    | false =>
      simp only [Bool.false_and, beq_self_eq_true, Bool.not_true, Bool.or_self, cond_false, Bool.or_false, Bool.and_true]
      have : (((may6 t && decide (id ≥ 0)) && decide (id < ((t.Pieces.length : Nat) : Int))) && ((t.Pieces.getD (id).toNat default).Zone == zone)) = false := by
        unfold known7 at hk
        rw [lE rfl, may_eq] at hk
        cases h1 : may6 t <;> cases h2 : decide (id ≥ 0) <;> cases h3 : decide (id < ((t.Pieces.length : Nat) : Int)) <;> simp_all
      rw [this]; rfl
    | true =>
      obtain ⟨i0, i1⟩ := known7_in hk
      have hm := known7_may hk
      have hH0 := ht id.toNat (by omega)
      have hH1 : (t.Pieces.getD id.toNat default).Has ≤ 1 := by
        have := ((badM_iff t id.toNat).1 (((may_iff t).1 hm).2.1 id.toNat (by omega)).1).1
        exact this.2.2.2.1
      rw [may_eq] at hm
      rw [hm]
      simp only [of7, lt, Bool.true_and, decide_eq_true i0, decide_eq_true i1, ge_iff_le]
      generalize hHH : (t.Pieces.getD id.toNat default).Has = H at *
      generalize (((t.Pieces.getD id.toNat default).Zone) == zone) = z
      generalize (kind == 0 || _ : Bool) = q
      have hu : IntKind.u8.wrap (1 - w) = 1 - w := by rcases hw01 with rfl | rfl <;> rfl
      rw [hu]
      rcases hw01 with rfl | rfl <;> (rcases (by omega : H = 0 ∨ H = 1) with rfl | rfl) <;> cases z <;> cases q <;> cases (from_ == id) <;> rfl
end Go.Jo.S
