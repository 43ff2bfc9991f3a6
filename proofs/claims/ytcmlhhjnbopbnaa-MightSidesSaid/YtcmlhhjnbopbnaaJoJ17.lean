/- Small words for printed walks. Over any program. -/
import Derived.Test.YtcmlhhjnbopbnaaJoJ16
namespace Go.Jo
open Go.RowKit
set_option autoImplicit false

abbrev dI (n : Int) : D := .v (.int .i64 n)
abbrev dU (n : Int) : D := .v (.int .u8 n)
abbrev dN (k : IntKind) (n : Int) : D := .v (.int k n)
abbrev dB (b : Bool) : D := .v (.bool b)
abbrev dS (s : ByteArray) : D := .v (.string s)
abbrev dNil : D := .v (.slice none 0 0)
abbrev J : AV := .junk
abbrev slOf {α : Type} [Inhabited α] (k : Nat) (enc : α → List D) (l : List α) : D := .sl k l.length (fun j => enc (l.getD j default))
abbrev slI (l : List Int) : D := .sl 1 l.length (fun j => [dI (l.getD j 0)])
abbrev slU (l : List Int) : D := .sl 1 l.length (fun j => [dU (l.getD j 0)])
abbrev slB (l : List Bool) : D := .sl 1 l.length (fun j => [dB (l.getD j false)])
abbrev slS (l : List ByteArray) : D := .sl 1 l.length (fun j => [dS (l.getD j ByteArray.empty)])

section
variable {P : Program} {c : Cfg} {nr : Bool} {K : Exit → St → Prop} {s : St}

theorem K_seq {b : Code} (h : AC c P nr b s K) : seqK c P nr b K .normal s := h
theorem K_seq_e {b : Code} {i : Nat} (h : K (.exit i) s) : seqK c P nr b K (.exit i) s := h
theorem K_seq_r {b : Code} (h : K .ret s) : seqK c P nr b K .ret s := h
theorem K_block_n {id : Nat} (h : K .normal s) : blockK id K .normal s := h
theorem K_block_r {id : Nat} (h : K .ret s) : blockK id K .ret s := h
theorem K_block_hit {id : Nat} (h : K .normal s) : blockK id K (.exit id) s := by simp only [blockK, if_true]; exact h
theorem K_block_miss {id i : Nat} (hne : i ≠ id) (h : K (.exit i) s) : blockK id K (.exit i) s := by simp only [blockK, if_neg hne]; exact h
theorem K_loop_e {ι : Type} {S : ι → St} {μ : ι → Nat} {i : ι} {k : Nat} (h : K (.exit k) s) : loopK S μ i K (.exit k) s := h
theorem K_loop_r {ι : Type} {S : ι → St} {μ : ι → Nat} {i : ι} (h : K .ret s) : loopK S μ i K .ret s := h
theorem K_loop_n {ι : Type} {S : ι → St} {μ : ι → Nat} {i : ι} (j : ι) (hμ : μ j < μ i) (h : s.le (S j)) : loopK S μ i K .normal s := ⟨j, hμ, h⟩
theorem K_join_n {st' : St} (h : s.le st') : joinK st' K .normal s := h
theorem K_join_e {st' : St} {i : Nat} (h : K (.exit i) s) : joinK st' K (.exit i) s := h
theorem K_join_r {st' : St} (h : K .ret s) : joinK st' K .ret s := h

theorem aend_r {res : List ResultVar} {r : D} (l : List Tmp) (hl : res = l.map .tmp) (d : D) (hd : frzR s.h (l.map fun t => s.σ.getD t .junk) = some d) (h : DEq d r) (hg : s.h.all HObj.gfree = true := by kernel_rfl) : aend c res r .ret s := by
  subst hl
  have : ∀ (l : List Tmp) (K : List AV → Prop), K (l.map fun t => s.σ.getD t .junk) → ares c s (l.map .tmp) K := by
    intro l
    induction l with
    | nil => intro K h; exact h
    | cons t l ih => intro K h; exact ih (fun rs => K (s.σ.getD t .junk :: rs)) h
  exact this l _ ⟨d, ⟨hd, hg⟩, h⟩
theorem aend_n {res : List ResultVar} {r : D} (l : List Tmp) (hl : res = l.map .tmp) (d : D) (hd : frzR s.h (l.map fun t => s.σ.getD t .junk) = some d) (h : DEq d r) (hg : s.h.all HObj.gfree = true := by kernel_rfl) : aend c res r .normal s := aend_r l hl d hd h hg
end

theorem bif_or (a b : Bool) : (bif a then true else b) = (a || b) := by cases a <;> rfl
theorem bif_and (a b : Bool) : (bif a then b else false) = (a && b) := by cases a <;> rfl

theorem convL_nil : convL [] [] := trivial
theorem convL_cons {x y : AV} {l l' : List AV} (h : Conv x y) (t : convL l l') : convL (x :: l) (y :: l') := ⟨h, t⟩
theorem hconvL_nil {l : List HObj} : hconvL l [] := by cases l <;> trivial
theorem hconvL_cons {x y : HObj} {l l' : List HObj} (h : HConv x y) (t : hconvL l l') : hconvL (x :: l) (y :: l') := ⟨h, t⟩
theorem DEq.nil' {k n : Nat} {f : Nat → List D} (h : n = 0) : DEq dNil (.sl k n f) := by subst h; exact DEq.nil k f
theorem HConv.row' {k n n' : Nat} {f f' : Nat → List D} {t : TypeId} (hn : n = n') (h : ∀ i, i < n → f i = f' i) : HConv (.row k n f t) (.row k n' f' t) := by subst hn; exact .row h

theorem w64 {x : Int} (h1 : -9223372036854775808 ≤ x) (h2 : x ≤ 9223372036854775807) : IntKind.i64.wrap x = x := by
  show (if true && decide (x % (2 ^ 64 : Int) ≥ (2 ^ (64 - 1) : Int)) then x % (2 ^ 64 : Int) - (2 ^ 64 : Int) else x % (2 ^ 64 : Int)) = x
  split <;> rename_i h <;> simp at h <;> omega
theorem w8 {x : Int} (h1 : 0 ≤ x) (h2 : x ≤ 255) : IntKind.u8.wrap x = x := by
  show (if false && decide (x % (2 ^ 8 : Int) ≥ (2 ^ (8 - 1) : Int)) then x % (2 ^ 8 : Int) - (2 ^ 8 : Int) else x % (2 ^ 8 : Int)) = x
  simp; omega

def forgetL (l : List Nat) (σ : List AV) : List AV := (σ.zipIdx 0).map fun x => bif l.contains x.2 then .junk else x.1

theorem forget_conv (l : List Nat) : ∀ (σ : List AV) (k : Nat), convL σ ((σ.zipIdx k).map fun x => bif l.contains x.2 then .junk else x.1)
  | [], _ => trivial
  | x :: σ, k => by
    refine ⟨?_, forget_conv l σ (k + 1)⟩
    dsimp only
    cases l.contains k with
    | true => exact Conv.junk x
    | false => exact Conv.refl x

/-- Slots are forgotten. -/
theorem St.le_forget (l : List Nat) {σ σ' : List AV} {h : List HObj} (he : forgetL l σ = σ') : St.le ⟨σ, h⟩ ⟨σ', h⟩ := by
  subst he
  intro E g a w r
  obtain ⟨s1, s2⟩ := convL_spec (forget_conv l σ 0)
  refine ⟨g, ⟨by rw [r.sl.size]; exact s1, fun i y hy => ?_⟩, r.wd, r.df⟩
  obtain ⟨x, hx, hc⟩ := s2 i y hy
  exact hc _ _ _ (r.sl.at_ i x hx)

end Go.Jo
