/- Walks by frames: what is left to do is a list, brought into its form by the kernel. Over any program. -/
import Derived.Test.YtcmlhhjnbopbnaaJoJ23
namespace Go.Jo
open Go.RowKit
set_option autoImplicit false

/-- What is left to do: code; a block's end; the rest of a region; a place where ways meet; a return. -/
inductive Fm where
  | c (b : Code)
  | b (id : Nat)
  | o (ops : Array Oper) (k : Nat)
  | k (C : St → Prop)
  | r

/-- Some state that stands for this one will do. -/
def clo (K : Exit → St → Prop) (e : Exit) (s : St) : Prop := ∃ s', s.le s' ∧ K e s'

def normK (C : St → Prop) (K : Exit → St → Prop) : Exit → St → Prop
  | .normal, s => C s
  | e, s => K e s

def FK (c : Cfg) (P : Program) (nr : Bool) : List Fm → (Exit → St → Prop) → Exit → St → Prop
  | [], K => clo K
  | .c b :: fs, K => normK (fun s => AC c P nr b s (FK c P nr fs K)) (FK c P nr fs K)
  | .b id :: fs, K => blockK id (FK c P nr fs K)
  | .o ops k :: fs, K => normK (fun s => ROps P ops (ops.toList.drop k) s (FK c P nr fs K .normal)) (FK c P nr fs K)
  | .k C :: fs, K => normK (fun s => ∃ s', s.le s' ∧ C s') (FK c P nr fs K)
  | .r :: fs, K => normK (FK c P nr fs K .ret) (FK c P nr fs K)

def W (c : Cfg) (P : Program) (nr : Bool) (fs : List Fm) (st : St) (K : Exit → St → Prop) : Prop := FK c P nr fs K .normal st

def popX (id : Nat) : List Fm → Option (List Fm)
  | .c _ :: fs => popX id fs
  | .b i :: fs => bif i == id then some fs else popX id fs
  | .k _ :: fs => popX id fs
  | .o _ _ :: fs => popX id fs
  | .r :: fs => popX id fs
  | [] => none

def nf : Nat → List Fm → List Fm
  | 0, fs => fs
  | n + 1, .c (.seq x y) :: fs => nf n (.c x :: .c y :: fs)
  | n + 1, .c (.block id b) :: fs => nf n (.c b :: .b id :: fs)
  | n + 1, .c .skip :: fs => nf n fs
  | n + 1, .c (.label _) :: fs => nf n fs
  | n + 1, .c (.exit id) :: fs => match popX id fs with | some gs => nf n gs | none => .c (.exit id) :: fs
  | _ + 1, .c .ret :: _ => [.r]
  | n + 1, .b _ :: fs => nf n fs
  | n + 1, .o ops k :: fs => bif Nat.ble ops.size k then nf n fs else .o ops k :: fs
  | _ + 1, fs => fs

abbrev nF (fs : List Fm) : List Fm := nf 2000 fs

section
variable {P : Program} {c : Cfg} {nr : Bool} {K : Exit → St → Prop} {st : St} {fs : List Fm}

theorem St.le_trans {a b d : St} (h : a.le b) (k : b.le d) : a.le d := fun E g x w r => by
  obtain ⟨g', r'⟩ := h E g x w r
  exact k E g' x w r'

theorem AC.close {b : Code} (h : AC c P nr b st (clo K)) : AC c P nr b st K := fun rd E g a w Q hN hr hK => h rd E g a w Q hN hr (fun e st' g' a' w' ⟨s', hl, hk⟩ hrel => by
  obtain ⟨g'', hr''⟩ := hl E g' a' w' hrel
  exact hK e s' g'' a' w' hk hr'')

theorem normK_le {C : St → Prop} {K : Exit → St → Prop} (hC : ∀ {s s' : St}, s.le s' → C s' → C s) (hK : ∀ {e : Exit} {s s' : St}, s.le s' → K e s' → K e s) {e : Exit} {s s' : St} (hl : s.le s') (h : normK C K e s') : normK C K e s := by
  cases e with
  | normal => exact hC hl h
  | _ => exact hK hl h

theorem FK_le : ∀ {fs : List Fm} {e : Exit} {s s' : St}, s.le s' → FK c P nr fs K e s' → FK c P nr fs K e s
  | [], e, s, s', hl, h => by obtain ⟨x, h1, h2⟩ := h; exact ⟨x, St.le_trans hl h1, h2⟩
  | .c b :: fs, e, s, s', hl, h => normK_le (K := FK c P nr fs K) (fun hl h => AC.le (c := c) hl h) (fun hl h => FK_le (fs := fs) hl h) hl h
  | .b i :: fs, e, s, s', hl, h => by
    have hh : blockK i (FK c P nr fs K) e s' := h
    show blockK i (FK c P nr fs K) e s
    cases e with
    | exit j =>
      simp only [blockK] at *
      split
      · rename_i e; rw [if_pos e] at hh; exact FK_le hl hh
      · rename_i e; rw [if_neg e] at hh; exact FK_le hl hh
    | _ => exact FK_le (fs := fs) hl hh
  | .o ops k :: fs, e, s, s', hl, h => normK_le (K := FK c P nr fs K) (fun hl h => ROps.le hl h) (fun hl h => FK_le (fs := fs) hl h) hl h
  | .k C :: fs, e, s, s', hl, h => normK_le (K := FK c P nr fs K) (fun hl ⟨x, h1, h2⟩ => ⟨x, St.le_trans hl h1, h2⟩) (fun hl h => FK_le (fs := fs) hl h) hl h
  | .r :: fs, e, s, s', hl, h => normK_le (K := FK c P nr fs K) (fun hl h => FK_le (fs := fs) hl h) (fun hl h => FK_le (fs := fs) hl h) hl h

theorem popX_ok {id : Nat} : ∀ {fs gs : List Fm} {s : St}, popX id fs = some gs → FK c P nr gs K .normal s → FK c P nr fs K (.exit id) s
  | .c b :: fs, gs, s, e, h => popX_ok (fs := fs) e h
  | .b i :: fs, gs, s, e, h => by
    simp only [popX] at e
    show blockK i _ _ s
    cases hb : (i == id) with
    | true =>
      rw [hb, cond_true] at e
      cases e
      have : i = id := by simpa using hb
      subst this
      exact K_block_hit h
    | false =>
      rw [hb, cond_false] at e
      have : id ≠ i := fun e => by subst e; simp at hb
      exact K_block_miss this (popX_ok e h)
  | .k C :: fs, gs, s, e, h => popX_ok (fs := fs) e h
  | .o ops k :: fs, gs, s, e, h => popX_ok (fs := fs) e h
  | .r :: fs, gs, s, e, h => popX_ok (fs := fs) e h
  | [], _, _, e, _ => by cases e

theorem popR_ok : ∀ {fs : List Fm} {s : St}, clo K .ret s → FK c P nr fs K .ret s
  | [], _, h => h
  | .c b :: fs, s, h => popR_ok (fs := fs) h
  | .b i :: fs, s, h => K_block_r (popR_ok (fs := fs) h)
  | .k C :: fs, s, h => popR_ok (fs := fs) h
  | .o ops k :: fs, s, h => popR_ok (fs := fs) h
  | .r :: fs, s, h => popR_ok (fs := fs) h

theorem nf_ok : ∀ {n : Nat} {fs : List Fm} {st : St}, W c P nr (nf n fs) st K → W c P nr fs st K := by
  intro n
  induction n with
  | zero => intro fs st h; exact h
  | succ n ih =>
    intro fs st h
    unfold nf at h
    split at h
    · rename_i h0; cases h0
    · rename_i h0; cases h0; exact AC.seq (c := c) ((show AC c P nr _ st (normK _ _) from ih h).mono fun e s k => by cases e <;> exact k)
    · rename_i h0; cases h0; exact AC.block (c := c) (ih h)
    · rename_i h0; cases h0; exact AC.skip (c := c) (ih h)
    · rename_i h0; cases h0; exact AC.label (c := c) (ih h)
    · rename_i h0; cases h0
      split at h
      · rename_i gs hg; exact AC.exit (c := c) (popX_ok hg (ih h))
      · exact h
    · exact AC.ret (c := c) (popR_ok (fs := _) h)
    · rename_i m id gs h0
      cases h0
      have := ih h
      exact this
    · rename_i m ops k gs h0
      cases h0
      cases hb : Nat.ble ops.size k with
      | true =>
        rw [hb, cond_true] at h
        show ROps P ops (ops.toList.drop k) st _
        rw [List.drop_eq_nil_of_le (by simpa using Nat.le_of_ble_eq_true hb)]
        exact ROps.nil (ih h)
      | false => rw [hb, cond_false] at h; exact h
    · exact h

theorem W.le {st' : St} (hl : st.le st') (h : W c P nr fs st' K) : W c P nr fs st K := FK_le hl h

/-! ### regions -/
def xtop (c : Cfg) (P : Program) (rs : List D) (us : List (Nat × AV)) (st : St) : List Fm → Option (List Prop × St)
  | .c (.region _ ops dr) :: _ => xfin c P ops dr rs us st
  | _ => none

theorem W.r (hc : c.OK P) (hm : P.follows .mixedOrders = true) (rs : List D) (us : List (Nat × AV)) (hf : List HObj → List HObj) (ps : List Prop)
    (hx : xtop c P rs us st (nF fs) = some (ps, ⟨setm st.σ us, hf st.h⟩)) (hp : AllP ps) (hK : W c P nr (nF fs).tail ⟨setm st.σ us, hf st.h⟩ K) : W c P nr fs st K := by
  refine nf_ok (n := 2000) ?_
  show W c P nr (nF fs) st K
  generalize nF fs = gs at *
  unfold xtop at hx
  split at hx
  · rename_i id ops dr l
    show AC c P nr (.region id ops dr) st (FK c P nr l K)
    unfold xfin at hx
    cases hb : ((bif dr then okOrder ops (ops.toList.takeWhile fun o => !isWr o.op).length else okStore ops.toList) && dstOK st.σ.length ops.toList) with
    | false => rw [hb] at hx; cases hx
    | true =>
      rw [hb, cond_true] at hx
      simp only [Bool.and_eq_true] at hb
      obtain ⟨hb1, hb2⟩ := hb
      split at hx
      · rename_i qs X hrun
        simp only [Option.some.injEq, Prod.mk.injEq] at hx
        obtain ⟨rfl, hst⟩ := hx
        have hl : ∀ o ∈ ops.toList, ∀ d, o.dst = some d → d < st.σ.length := fun o ho d hd => by
          have := (List.all_eq_true.1 hb2) o ho
          rw [hd] at this
          simpa using this
        obtain ⟨_, hs⟩ := xrun_sound hc (X := ⟨st, [], []⟩) hl ⟨fun s L h => (by cases h), fun s L h => (by cases h)⟩ hrun hp
        have hle : X.st.le ⟨setm st.σ us, hf st.h⟩ := by
          rw [← hst]
          exact St.le_forget _ rfl
        have haops : ∀ {K : St → Prop}, K X.st → aops c P ops ops.toList st K := fun hk => by
          have := hs (rest := []) (K := _) hk
          rwa [List.append_nil] at this
        have hk : FK c P nr l K .normal X.st := FK_le hle hK
        cases dr with
        | true => exact AC.draws hc hm _ hb1 (haops hk)
        | false => exact AC.region hc hb1 (haops hk)
      · cases hx
  · cases hx

/-! ### tests, loops, ways that meet -/
def tcond (st : St) : List Fm → Option Bool
  | .c (.cond x _ _) :: _ => match ev st.σ x with | .d (.v (.bool b)) => some b | _ => none
  | _ => none
def fthen : List Fm → List Fm
  | .c (.cond _ y _) :: r => .c y :: r
  | fs => fs
def felse : List Fm → List Fm
  | .c (.cond _ _ z) :: r => .c z :: r
  | fs => fs

theorem W.i (t : Bool) (hx : tcond st (nF fs) = some t) (h1 : t = true → W c P nr (fthen (nF fs)) st K) (h2 : t = false → W c P nr (felse (nF fs)) st K) : W c P nr fs st K := by
  refine nf_ok (n := 2000) ?_
  show W c P nr (nF fs) st K
  generalize nF fs = gs at *
  unfold tcond at hx
  split at hx
  · rename_i x y z r
    split at hx
    · rename_i b hb
      cases hx
      exact AC.cond (c := c) t hb h1 h2
    · cases hx
  · cases hx

def isLoop : List Fm → Bool
  | .c (.loop _) :: _ => true
  | _ => false
def floop (C : St → Prop) : List Fm → List Fm
  | .c (.loop b) :: r => .c b :: .k C :: r
  | fs => fs

theorem W.l {ι : Type} (S : ι → St) (μ : ι → Nat) (i0 : ι) (hx : isLoop (nF fs) = true) (h0 : st.le (S i0))
    (h : ∀ (i : ι) (C : St → Prop), (∀ s j, μ j < μ i → s.le (S j) → C s) → W c P nr (floop C (nF fs)) (S i) K) : W c P nr fs st K := by
  refine nf_ok (n := 2000) ?_
  show W c P nr (nF fs) st K
  generalize nF fs = gs at *
  unfold isLoop at hx
  split at hx
  · rename_i b r
    refine AC.loop (c := c) S μ i0 h0 (fun i => ?_)
    have := h i (fun s => ∃ j, μ j < μ i ∧ s.le (S j)) (fun s j h1 h2 => ⟨j, h1, h2⟩)
    refine (show AC c P nr b (S i) (FK c P nr (.k _ :: r) K) from this).mono (fun e s he => ?_)
    cases e with
    | normal => obtain ⟨s', k1, j, k2, k3⟩ := he; exact ⟨j, k2, St.le_trans k1 k3⟩
    | _ => exact he
  · cases hx

def topk : List Fm → Option (St → Prop)
  | .k C :: _ => some C
  | _ => none

theorem W.k (C : St → Prop) (hx : topk (nF fs) = some C) (h : C st) : W c P nr fs st K := by
  refine nf_ok (n := 2000) ?_
  show W c P nr (nF fs) st K
  generalize nF fs = gs at *
  unfold topk at hx
  split at hx
  · cases hx; exact ⟨_, St.le_refl _, h⟩
  · cases hx

def ins (C : St → Prop) : Nat → List Fm → List Fm
  | 0, fs => .k C :: fs
  | n + 1, x :: fs => x :: ins C n fs
  | _ + 1, [] => []

theorem ROps.mono {ops : Array Oper} {rest : List Oper} {st : St} {K K' : St → Prop} (h : ROps P ops rest st K) (hk : ∀ s, K s → K' s) : ROps P ops rest st K' := fun rd E g a w k Q hd hr hQ => h rd E g a w k Q hd hr (fun st' g' a' w' h1 h2 => hQ st' g' a' w' (hk _ h1) h2)

theorem ins_ok {C : St → Prop} : ∀ {d : Nat} {fs : List Fm}, (∀ s, C s → FK c P nr (fs.drop d) K .normal s) → ∀ {e : Exit} {s : St}, FK c P nr (ins C d fs) K e s → FK c P nr fs K e s
  | 0, fs, hC, e, s, h => by
    cases e with
    | normal => obtain ⟨s', h1, h2⟩ := h; exact FK_le h1 (hC _ h2)
    | _ => exact h
  | d + 1, [], hC, e, s, h => h
  | d + 1, .c b :: fs, hC, e, s, h => by
    have ih := @ins_ok C d fs hC
    cases e with
    | normal => exact (show AC c P nr b s _ from h).mono (fun e s he => ih he)
    | _ => exact ih h
  | d + 1, .b i :: fs, hC, e, s, h => by
    have ih := @ins_ok C d fs hC
    have hh : blockK i (FK c P nr (ins C d fs) K) e s := h
    show blockK i (FK c P nr fs K) e s
    cases e with
    | exit j =>
      simp only [blockK] at *
      split
      · rename_i e; rw [if_pos e] at hh; exact ih hh
      · rename_i e; rw [if_neg e] at hh; exact ih hh
    | _ => exact ih hh
  | d + 1, .o ops k :: fs, hC, e, s, h => by
    have ih := @ins_ok C d fs hC
    cases e with
    | normal => exact (show ROps P ops _ s _ from h).mono (fun s he => ih he)
    | _ => exact ih h
  | d + 1, .k C' :: fs, hC, e, s, h => by
    have ih := @ins_ok C d fs hC
    cases e with
    | normal => exact h
    | _ => exact ih h
  | d + 1, .r :: fs, hC, e, s, h => by
    have ih := @ins_ok C d fs hC
    cases e with
    | normal => exact ih (e := .ret) h
    | _ => exact ih h

theorem W.j (d : Nat) (S : St) (h1 : ∀ C : St → Prop, (∀ s, s.le S → C s) → W c P nr (ins C d (nF fs)) st K) (h2 : W c P nr ((nF fs).drop d) S K) : W c P nr fs st K := by
  refine nf_ok (n := 2000) ?_
  exact ins_ok (C := fun s => s.le S) (fun s hs => FK_le hs h2) (h1 _ (fun _ h => h))

/-! ### the end -/
def endsB : List Fm → Bool
  | [] => true
  | [.r] => true
  | _ => false

def xres (c : Cfg) (st : St) : List ResultVar → Option (List AV)
  | [] => some []
  | .tmp t :: l => (xres c st l).map (st.σ.getD t .junk :: ·)
  | .cell a t :: l =>
    match pop c.T c.Q c.O st.h (ev st.σ) (.load t (.tmp a)) with
    | .val p r =>
      match obl (owes c.T st.h (ev st.σ) (.load t (.tmp a))) p with
      | some [] => (xres c st l).map (r :: ·)
      | _ => none
    | _ => none

theorem xres_ok : ∀ {l : List ResultVar} {rs : List AV} {Kr : List AV → Prop}, xres c st l = some rs → Kr rs → ares c st l Kr
  | [], rs, Kr, h, hK => by cases h; exact hK
  | .tmp t :: l, rs, Kr, h, hK => by
    simp only [xres, Option.map_eq_some_iff] at h
    obtain ⟨a, h1, rfl⟩ := h
    exact xres_ok (l := l) (Kr := fun rs => Kr (st.σ.getD t .junk :: rs)) h1 hK
  | .cell a t :: l, rs, Kr, h, hK => by
    simp only [xres] at h
    split at h
    · rename_i p r ho
      have hok := owes_ok (fun v => rfl) ho
      split at h
      · rename_i hq
        simp only [Option.map_eq_some_iff] at h
        obtain ⟨as, h1, rfl⟩ := h
        have hp : p := obl_ok (f := id) (G := True) (fun _ h _ => h) hq hok trivial trivial
        simp only [pop] at ho
        unfold ares
        split at ho
        · rename_i ti hti
          rw [hti]; dsimp only
          have ho' : ald ti st.h (st.σ.getD a .junk) = .val p r := ho
          rw [ho']
          exact ⟨hp, xres_ok (l := l) (Kr := fun rs => Kr (r :: rs)) h1 hK⟩
        · cases ho
      · cases h
    · cases h

def xresD (c : Cfg) (st : St) (res : List ResultVar) : Option D :=
  match xres c st res with
  | some rs => frzR st.h rs
  | none => none

theorem W.e {res : List ResultVar} {r : D} (d : D) (hx : (endsB (nF fs) && st.h.all HObj.gfree) = true) (hd : xresD c st res = some d) (h : DEq d r) : W c P nr fs st (aend c res r) := by
  simp only [Bool.and_eq_true] at hx
  unfold xresD at hd
  split at hd
  · rename_i rs hrs
    have key : ∀ e, (e = .normal ∨ e = .ret) → clo (aend c res r) e st := fun e he => ⟨st, St.le_refl _, by
      have := xres_ok (Kr := fun rs => ∃ d, (frzR st.h rs = some d ∧ st.h.all HObj.gfree = true) ∧ DEq d r) hrs ⟨d, ⟨hd, hx.2⟩, h⟩
      rcases he with rfl | rfl <;> exact this⟩
    refine nf_ok (n := 2000) ?_
    show W c P nr (nF fs) st _
    have h1 := hx.1
    generalize nF fs = gs at *
    unfold endsB at h1
    split at h1
    · exact key .normal (.inl rfl)
    · exact key .ret (.inr rfl)
    · cases h1
  · cases hd

def bodyOf (fn : Func) : Code := match fn.body with | some b => b | none => .skip

theorem acall_w (hc : c.OK P) {f : FuncId} {fn : Func} (hf : P.funcs[f]? = some fn) (hb : fn.body.isSome = true) (hname : fn.name ≠ "runtime.NumGoroutine") {args : List D} {r : D}
    (h : W c P true [.c (bodyOf fn)] ⟨slots0 (args.map .d) fn.ntmps, []⟩ (aend c fn.results.toList r)) : ACall P f args r := by
  obtain ⟨b, hb'⟩ := Option.isSome_iff_exists.1 hb
  have hbo : bodyOf fn = b := by unfold bodyOf; rw [hb']
  rw [hbo] at h
  exact acall_ac hc hf hb' hname (AC.close h)
end
end Go.Jo
