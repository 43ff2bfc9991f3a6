/- Loops and joins told by what differs; what stands for what, briefly. Over any program. -/
import Derived.Test.YtcmlhhjnbopbnaaJoJ24
namespace Go.Jo
open Go.RowKit
set_option autoImplicit false

def setH (h : List HObj) : List (Nat × HObj) → List HObj
  | [] => h
  | x :: l => setH (h.set x.1 x.2) l

/-- A state, told by what differs. -/
def St.up (st : St) (us : List (Nat × AV)) (hs : List (Nat × HObj)) : St := ⟨setm st.σ us, setH st.h hs⟩

def CV : List (Nat × AV × AV) → Prop
  | [] => True
  | x :: l => Conv x.2.1 x.2.2 ∧ CV l

def HCV : List (Nat × HObj × HObj) → Prop
  | [] => True
  | x :: l => HConv x.2.1 x.2.2 ∧ HCV l

def jOf : List AV → Nat → List Nat
  | [], _ => []
  | x :: l, n => bif isJ x then n :: jOf l (n + 1) else jOf l (n + 1)

section
variable {P : Program} {c : Cfg} {nr : Bool} {K : Exit → St → Prop} {st : St} {fs : List Fm}

theorem convL_set : ∀ {l l' : List AV} {n : Nat} {y : AV}, convL l l' → Conv (l'.getD n .junk) y → convL l (l'.set n y)
  | [], [], _, _, _, _ => trivial
  | x :: l, z :: l', 0, y, h, k => ⟨Conv.trans h.1 k, h.2⟩
  | x :: l, z :: l', n + 1, y, h, k => ⟨h.1, convL_set h.2 (by simpa using k)⟩
  | [], _ :: _, _, _, h, _ => by cases h
  | _ :: _, [], _, _, h, _ => by cases h

def getsA : List AV → List (Nat × AV × AV) → List AV
  | _, [] => []
  | σ, x :: l => σ.getD x.1 .junk :: getsA (σ.set x.1 x.2.2) l

theorem convL_setm : ∀ {fx : List (Nat × AV × AV)} {l l' : List AV}, convL l l' → getsA l' fx = fx.map (fun x => x.2.1) → CV fx → convL l (setm l' (fx.map fun x => (x.1, x.2.2)))
  | [], l, l', h, _, _ => h
  | x :: fx, l, l', h, hg, hc => by
    simp only [getsA, List.map_cons, List.cons.injEq] at hg
    exact convL_setm (fx := fx) (convL_set h (by rw [hg.1]; exact hc.1)) hg.2 hc.2

def getsH : List HObj → List (Nat × HObj × HObj) → List (Option HObj)
  | _, [] => []
  | h, x :: l => h[x.1]? :: getsH (h.set x.1 x.2.2) l

theorem Conv.t {x y z : AV} (h : Conv x y) (k : Conv y z) : Conv x z := h.trans k

theorem convL_trans : ∀ {a b d : List AV}, convL a b → convL b d → convL a d
  | [], [], [], _, _ => trivial
  | x :: a, y :: b, z :: d, h, k => ⟨h.1.trans k.1, convL_trans h.2 k.2⟩
  | [], _ :: _, _, h, _ => by cases h
  | _ :: _, [], _, h, _ => by cases h
  | _, [], _ :: _, _, k => by cases k
  | _, _ :: _, [], _, k => by cases k

theorem HConv.trans {x y z : HObj} (h : HConv x y) (k : HConv y z) : HConv x z := by
  cases h with
  | refl => exact k
  | box h1 =>
    cases k with
    | refl => exact .box h1
    | box h2 => exact .box (convL_trans h1 h2)
  | row h1 =>
    cases k with
    | refl => exact .row h1
    | row h2 => exact .row (fun i hi => (h1 i hi).trans (h2 i hi))
  | ghost h1 =>
    cases k with
    | refl => exact .ghost h1
    | ghost h2 => exact .ghost (convL_trans h1 h2)
  | lp h1 =>
    cases k with
    | refl => exact .lp h1
    | lp h2 => exact .lp (convL_trans h1 h2)
  | mp h1 h2 h3 =>
    cases k with
    | refl => exact .mp h1 h2 h3
    | mp k1 k2 k3 => exact .mp (fun K => (h1 K).trans (k1 K)) (fun K => (h2 K).trans (k2 K)) (fun K hK => (h3 K hK).elim (fun e => .inl (by rw [← k2 K]; exact e)) (fun e => k3 K e))

theorem hconvL_refl : ∀ {l : List HObj}, hconvL l l
  | [] => trivial
  | x :: l => ⟨.refl x, hconvL_refl⟩

theorem hconvL_set : ∀ {l l' : List HObj} {n : Nat} {y : HObj}, hconvL l l' → (∀ x, l'[n]? = some x → HConv x y) → hconvL l (l'.set n y)
  | _, [], _, _, _, _ => by simp [hconvL]
  | x :: l, z :: l', 0, y, h, k => ⟨h.1.trans (k z rfl), h.2⟩
  | x :: l, z :: l', n + 1, y, h, k => ⟨h.1, hconvL_set h.2 (by simpa using k)⟩
  | [], _ :: _, _, _, h, _ => by cases h

theorem hconvL_setH : ∀ {fx : List (Nat × HObj × HObj)} {l l' : List HObj}, hconvL l l' → getsH l' fx = fx.map (fun x => some x.2.1) → HCV fx → hconvL l (setH l' (fx.map fun x => (x.1, x.2.2)))
  | [], l, l', h, _, _ => h
  | x :: fx, l, l', h, hg, hc => by
    simp only [getsH, List.map_cons, List.cons.injEq] at hg
    exact hconvL_setH (fx := fx) (hconvL_set h (fun z hz => by rw [hg.1] at hz; cases hz; exact hc.1)) hg.2 hc.2

theorem convL_len {a b : List AV} (h : convL a b) : a.length = b.length := (convL_spec h).1

theorem hconvL_take : ∀ {l l' : List HObj} {n : Nat}, hconvL l l' → hconvL l (l'.take n)
  | _, [], _, _ => by simp [hconvL]
  | _, _ :: _, 0, _ => by simp [hconvL]
  | x :: l, y :: l', n + 1, h => ⟨h.1, hconvL_take h.2⟩
  | [], _ :: _, _ + 1, h => by cases h

/-- One state stands for another: what is turned, with its reasons; the rest the kernel sees. -/
theorem St.leF (fx : List (Nat × AV × AV)) (hc : CV fx) (hx : List (Nat × HObj × HObj)) (hh : HCV hx) {S : St} (h1 : getsA st.σ fx = fx.map (fun x => x.2.1)) (h2 : getsH st.h hx = hx.map (fun x => some x.2.1))
    (h3 : (⟨forgetL (jOf S.σ 0) (setm st.σ (fx.map fun x => (x.1, x.2.2))), (setH st.h (hx.map fun x => (x.1, x.2.2))).take S.h.length⟩ : St) = S)
    (h4 : (AV.ok.okL S.h.length S.σ && okAll S.h.length S.h && (st.h.drop S.h.length).all HObj.nodf) = true) : st.le S := by
  have e1 : forgetL (jOf S.σ 0) (setm st.σ (fx.map fun x => (x.1, x.2.2))) = S.σ := congrArg St.σ h3
  have e2 : (setH st.h (hx.map fun x => (x.1, x.2.2))).take S.h.length = S.h := congrArg St.h h3
  simp only [Bool.and_eq_true] at h4
  obtain ⟨⟨k1, k2⟩, k3⟩ := h4
  have c1 : convL st.σ S.σ := by
    rw [← e1]
    exact convL_trans (convL_setm (convL_refl _) h1 hc) (forget_conv _ _ 0)
  have c2 : hconvL st.h S.h := by
    rw [← e2]
    exact hconvL_take (hconvL_setH hconvL_refl h2 hh)
  exact St.le_mk c1 c2 k1 k2 k3

theorem W.lp {V : Type} (us : Nat × V → List (Nat × AV)) (hs : Nat × V → List (Nat × HObj)) (I : Nat × V → Prop) (i0 : Nat × V) (hx : isLoop (nF fs) = true) (hi : I i0) (h0 : st.le (st.up (us i0) (hs i0)))
    (h : ∀ i, I i → ∀ C : St → Prop, (∀ s j, I j → j.1 < i.1 → s.le (st.up (us j) (hs j)) → C s) → W c P nr (floop C (nF fs)) (st.up (us i) (hs i)) K) : W c P nr fs st K :=
  W.l (ι := { x : Nat × V // I x }) (fun x => st.up (us x.1) (hs x.1)) (fun x => x.1.1) ⟨i0, hi⟩ hx h0 (fun i C hC => h i.1 i.2 C (fun s j hj hlt hl => hC s ⟨j, hj⟩ hlt hl))

theorem W.jf {V : Type} (d : Nat) (us : V → List (Nat × AV)) (hs : V → List (Nat × HObj)) (I : V → Prop) (h1 : ∀ C : St → Prop, (∀ s v, I v → s.le (st.up (us v) (hs v)) → C s) → W c P nr (ins C d (nF fs)) st K)
    (h2 : ∀ v, I v → W c P nr ((nF fs).drop d) (st.up (us v) (hs v)) K) : W c P nr fs st K := by
  refine nf_ok (n := 2000) ?_
  exact ins_ok (C := fun s => ∃ v, I v ∧ s.le (st.up (us v) (hs v))) (fun s ⟨v, hv, hs⟩ => FK_le hs (h2 v hv)) (h1 _ (fun s v h1 h2 => ⟨v, h1, h2⟩))

theorem cI {a b : Int} {k : IntKind} (h : a = b) : Conv (.d (dN k a)) (.d (dN k b)) := by subst h; exact Conv.refl _
theorem cB {a b : Bool} (h : a = b) : Conv (.d (dB a)) (.d (dB b)) := by subst h; exact Conv.refl _

abbrev sameH (h : List HObj) : List HObj := h
theorem nm {α : Sort _} (a : α) : ∃ x, x = a := ⟨a, rfl⟩

/-! ### lengths -/
def lenD : D → Prop
  | .sl _ n f => n ≤ maxLen ∧ ∀ i, i < n → lens (f i)
  | .ag cs => lens cs
  | .tu cs => lens cs
  | .ic _ x => lenD x
  | .v _ => True
where lens : List D → Prop
  | [] => True
  | x :: l => lenD x ∧ lens l


theorem lens_of : ∀ {l : List D}, (∀ (j : Nat) (x : D), l[j]? = some x → lenD x) → lenD.lens l
  | [], _ => trivial
  | x :: l, h => ⟨h 0 x rfl, lens_of (fun j y hy => h (j + 1) y (by simpa using hy))⟩

theorem RepD.len {H : Mem} {x : D} {v : Value} (h : RepD H x v) : lenD x := by
  induction h with
  | v h => trivial
  | sl val hc hm hz hl h1 hH hr ih => exact ⟨Nat.le_trans hc hm, fun i hi => lens_of (fun j y hy => ih i j y hi hy)⟩
  | ag hs h ih => exact lens_of (fun j y hy => ih j y hy)
  | tu hs h ih => exact lens_of (fun j y hy => ih j y hy)
  | ic h ih => exact ih

def topC : List Fm → Bool
  | .c _ :: _ => true
  | _ => false

/-- What is in a slot has lengths that fit. -/
theorem W.len (s : Nat) (x : D) (hx : st.σ[s]? = some (.d x)) (ht : topC (nF fs) = true) (h : lenD x → W c P nr (nF fs) st K) : W c P nr fs st K := by
  refine nf_ok (n := 2000) ?_
  show W c P nr (nF fs) st K
  generalize nF fs = gs at *
  unfold topC at ht
  split at ht
  · rename_i b r
    intro rd E g a w Q hN hr hK
    have hrep := hr.sl.at_ s _ hx
    exact h hrep.data.len rd E g a w Q hN hr hK
  · cases ht
end
end Go.Jo
