/- Small words for ranges over maps. Over any program. -/
import Derived.Test.YtcmlhhjnbopbnaaJoJ27
namespace Go.Jo
open Go.RowKit
set_option autoImplicit false
section
variable {P : Program} {c : Cfg} {nr : Bool} {K : Exit → St → Prop} {st : St} {fs gs : List Fm}

def opB (p : Oper → Bool) : Option Oper → Bool
  | some o => p o
  | none => false

theorem W.op (hs : (opAt (nF fs)).isSome = true) (hg : ((opAt (nF fs)).get hs).guard = none) (h : OpS P ((opAt (nF fs)).get hs) st (fun s => W c P nr (adv 1 (nF fs)) s K)) : W c P nr fs st K :=
  W.one (by simp) hg h

theorem W.leF (us : List (Nat × AV)) (hs : List (Nat × HObj)) (fx : List (Nat × AV × AV)) (hc : CV fx) (hx : List (Nat × HObj × HObj)) (hh : HCV hx) (h1 : getsA st.σ fx = fx.map (fun x => x.2.1)) (h2 : getsH st.h hx = hx.map (fun x => some x.2.1))
    (h3 : (⟨forgetL (jOf (st.up us hs).σ 0) (setm st.σ (fx.map fun x => (x.1, x.2.2))), (setH st.h (hx.map fun x => (x.1, x.2.2))).take (st.up us hs).h.length⟩ : St) = st.up us hs)
    (h4 : (AV.ok.okL (st.up us hs).h.length (st.up us hs).σ && okAll (st.up us hs).h.length (st.up us hs).h && (st.h.drop (st.up us hs).h.length).all HObj.nodf) = true) (h : W c P nr fs (st.up us hs) K) : W c P nr fs st K :=
  W.le (St.leF fx hc hx hh h1 h2 h3 h4) h

theorem mhas_inv {α : Type} {C : Codec α} {s : α → Bool} {k : List Value} (h : mhas C s k = true) : ∃ j, C.enc j = k ∧ s j = true := by
  unfold mhas at h
  split at h
  · rename_i j hj; exact ⟨j, C.ed _ _ hj, h⟩
  · cases h

theorem mhas_enc {α : Type} {C : Codec α} {s : α → Bool} (j : α) : mhas C s (C.enc j) = s j := by
  unfold mhas; rw [C.de]

theorem codec_inj {α : Type} {C : Codec α} {j k : α} {ag : Bool} (hz : ag = false → C.zs.length = 1) (h : mkK ag (C.enc j) = mkK ag (C.enc k)) : j = k := by
  have := mkK_inj2 (C.like j) (C.like k) hz h
  have h2 := C.de j
  rw [this, C.de k] at h2
  exact (Option.some.inj h2).symm

open Classical in
/-- Whether all keys that are there stand a test. -/
noncomputable def allK {α : Type} (s ok : α → Bool) : Bool := decide (∀ k, s k = true → ok k = true)

theorem allK_true {α : Type} {s ok : α → Bool} (h : ∀ k, s k = true → ok k = true) : allK s ok = true := by
  unfold allK; simpa using h
theorem allK_false {α : Type} {s ok : α → Bool} {k : α} (h : s k = true) (h2 : ok k = false) : allK s ok = false := by
  unfold allK
  simp only [decide_eq_false_iff_not]
  intro q
  rw [q k h] at h2; cases h2

def unseen (es : Array MapEntry) (seen : Array Nat) : Nat := (es.toList.filter fun e => !seen.contains e.born).length

theorem flt_le {α : Type} {p q : α → Bool} : ∀ {l : List α}, (∀ x ∈ l, q x = true → p x = true) → (l.filter q).length ≤ (l.filter p).length
  | [], _ => Nat.le_refl _
  | x :: l, h => by
    have ih := flt_le (p := p) (q := q) (l := l) (fun y hy => h y (List.mem_cons_of_mem _ hy))
    have hx := h x List.mem_cons_self
    rw [List.filter_cons, List.filter_cons]
    cases hq : q x with
    | true => rw [hx hq]; simpa using ih
    | false => cases hp : p x <;> simp <;> omega
theorem flt_lt {α : Type} {p q : α → Bool} : ∀ {l : List α} {x : α}, (∀ x ∈ l, q x = true → p x = true) → x ∈ l → q x = false → p x = true → (l.filter q).length < (l.filter p).length
  | y :: l, x, h, hx, h1, h2 => by
    have hl := flt_le (p := p) (q := q) (l := l) (fun y hy => h y (List.mem_cons_of_mem _ hy))
    rw [List.filter_cons, List.filter_cons]
    cases hx with
    | head => rw [h1, h2]; simp; omega
    | tail _ hx =>
      have ih := flt_lt (p := p) (q := q) (l := l) (fun y hy => h y (List.mem_cons_of_mem _ hy)) hx h1 h2
      have hy := h y List.mem_cons_self
      cases hq : q y with
      | true => rw [hy hq]; simpa using ih
      | false => cases hp : p y <;> simp <;> omega

theorem unseen_lt {es : Array MapEntry} {seen : Array Nat} {e : MapEntry} (he : e ∈ es.toList) (hs : seen.contains e.born = false) : unseen es (seen.push e.born) < unseen es seen := by
  unfold unseen
  refine flt_lt (x := e) (fun x _ h => ?_) he ?_ ?_
  · simp only [Bool.not_eq_true', Array.contains_push, Bool.or_eq_false_iff] at h ⊢
    exact h.1
  · simp [Array.contains_push]
  · rw [hs]; rfl

theorem contains_push' {seen : Array Nat} {a b : Nat} (h : (seen.push a).contains b = true) : seen.contains b = true ∨ b = a := by
  rw [Array.contains_push] at h
  simp only [Bool.or_eq_true, beq_iff_eq] at h
  exact h
end
end Go.Jo
