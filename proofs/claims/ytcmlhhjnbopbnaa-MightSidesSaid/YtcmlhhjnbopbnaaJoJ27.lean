/- Segments of regions, ranges over maps, maps told by functions. Over any program. -/
import Derived.Test.YtcmlhhjnbopbnaaJoJ26
import Derived.Maps.RangeRun
namespace Go.Jo
open Go.RowKit
set_option autoImplicit false

/-! ### segments -/
def opsAt : List Fm → Option (Array Oper × Nat)
  | .c (.region _ ops false) :: _ => some (ops, 0)
  | .o ops k :: _ => some (ops, k)
  | _ => none
def adv (n : Nat) : List Fm → List Fm
  | .c (.region _ ops _) :: r => .o ops n :: r
  | .o ops k :: r => .o ops (k + n) :: r
  | fs => fs
def opAt (fs : List Fm) : Option Oper :=
  match opsAt fs with
  | some x => x.1[x.2]?
  | none => none

def xseg (c : Cfg) (P : Program) (n : Nat) (rs : List D) (us : List (Nat × AV)) (st : St) (fs : List Fm) : Option (List Prop × St) :=
  match opsAt fs with
  | some (ops, k) =>
    bif okStore ops.toList && dstOK st.σ.length ops.toList then
      match xrun c P ops ((ops.toList.drop k).take n) rs ⟨st, [], []⟩ with
      | some (ps, [], X) => some (ps, ⟨forgetL (deadL X.wr us) X.st.σ, X.st.h⟩)
      | _ => none
    else none
  | none => none

section
variable {P : Program} {c : Cfg} {nr : Bool} {K : Exit → St → Prop} {st : St} {fs gs : List Fm}

theorem W_of_ops {ops : Array Oper} {k : Nat} (h : opsAt gs = some (ops, k)) (hR : ROps P ops (ops.toList.drop k) st (FK c P nr gs.tail K .normal)) : W c P nr gs st K := by
  unfold opsAt at h
  split at h
  · cases h; exact AC.regionS (c := c) hR
  · cases h; exact hR
  · cases h

theorem adv_W {ops : Array Oper} {k n : Nat} (h : opsAt gs = some (ops, k)) {s : St} (hW : W c P nr (adv n gs) s K) : ROps P ops (ops.toList.drop (k + n)) s (FK c P nr gs.tail K .normal) := by
  unfold opsAt at h
  split at h
  · cases h; rw [Nat.zero_add]; exact hW
  · cases h; exact hW
  · cases h

theorem W.s (hc : c.OK P) (n : Nat) (rs : List D) (us : List (Nat × AV)) (hf : List HObj → List HObj) (ps : List Prop) (hx : xseg c P n rs us st (nF fs) = some (ps, ⟨setm st.σ us, hf st.h⟩)) (hp : AllP ps) (hK : W c P nr (adv n (nF fs)) ⟨setm st.σ us, hf st.h⟩ K) : W c P nr fs st K := by
  refine nf_ok (n := 2000) ?_
  show W c P nr (nF fs) st K
  generalize nF fs = gs at *
  unfold xseg at hx
  split at hx
  · rename_i ops k ho
    cases hb : (okStore ops.toList && dstOK st.σ.length ops.toList) with
    | false => rw [hb] at hx; cases hx
    | true =>
      rw [hb, cond_true] at hx
      simp only [Bool.and_eq_true] at hb
      split at hx
      · rename_i qs X hrun
        simp only [Option.some.injEq, Prod.mk.injEq] at hx
        obtain ⟨rfl, hst⟩ := hx
        have hl : ∀ o ∈ (ops.toList.drop k).take n, ∀ d, o.dst = some d → d < st.σ.length := fun o ho d hd => by
          have := (List.all_eq_true.1 hb.2) o (List.mem_of_mem_drop (List.mem_of_mem_take ho))
          rw [hd] at this
          simpa using this
        obtain ⟨_, hs⟩ := xrun_sound hc (X := ⟨st, [], []⟩) hl ⟨fun s L h => (by cases h), fun s L h => (by cases h)⟩ hrun hp
        have hle : X.st.le ⟨setm st.σ us, hf st.h⟩ := by
          rw [← hst]
          exact St.le_forget _ rfl
        refine W_of_ops ho ?_
        have h1 : aops c P ops ((ops.toList.drop k).take n) st (fun s => s = X.st) := by
          have := hs (rest := []) (K := fun s => s = X.st) rfl
          rwa [List.append_nil] at this
        have := ROps.app hc hb.1 h1 (ROps.le hle (adv_W (n := n) ho hK))
        rwa [← List.drop_drop, List.take_append_drop] at this
      · cases hx
  · cases hx

theorem W.one {o : Oper} (ho : opAt (nF fs) = some o) (hg : o.guard = none) (h : OpS P o st (fun s => W c P nr (adv 1 (nF fs)) s K)) : W c P nr fs st K := by
  refine nf_ok (n := 2000) ?_
  show W c P nr (nF fs) st K
  generalize nF fs = gs at *
  unfold opAt at ho
  split at ho
  · rename_i x hx
    obtain ⟨ops, k⟩ := x
    refine W_of_ops hx ?_
    have hlt : k < ops.size := (Array.getElem?_eq_some_iff.1 ho).1
    have hd : ops.toList.drop k = o :: ops.toList.drop (k + 1) := by
      rw [List.drop_eq_getElem_cons (by simpa using hlt)]
      congr 1
      obtain ⟨_, he⟩ := Array.getElem?_eq_some_iff.1 ho
      simpa using he
    rw [hd]
    exact ROps.one hg (h.mono (fun s hs => adv_W (n := 1) hx hs))
  · cases ho

/-! ### ranges over maps -/
def kD (ag : Bool) (K : List Value) : D := bif ag then .ag (K.map .v) else .v (K.headD undef)

theorem kD_rep {zs K : List Value} {ag : Bool} (h : likeV zs K = true) (h1 : ag = false → K.length = 1) (H : Mem) : RepD H (kD ag K) (mkK ag K) := by
  cases ag with
  | true => exact repAg (likeV_one h)
  | false =>
    match K, h1 rfl, h with
    | [v], _, h => exact .v (likeV_one h v (by simp))

/-- What is known of a map's entries. -/
structure MFacts (es : Array MapEntry) (clock : Nat) (has : List Value → Bool) (zs : List Value) (ag : Bool) : Prop where
  keys : ∀ e ∈ es.toList, ∃ K, e.key = mkK ag K ∧ likeV zs K = true ∧ has K = true
  all : ∀ K, has K = true → ∃ e ∈ es.toList, e.key = mkK ag K ∧ likeV zs K = true
  lt : ∀ e ∈ es.toList, e.born < clock
  born : ∀ e ∈ es.toList, ∀ e' ∈ es.toList, e.born = e'.born → e = e'

theorem idxOf {es : Array MapEntry} {e : MapEntry} (he : e ∈ es.toList) : ∃ i : Nat, es[i]? = some e := by
  obtain ⟨i, hi, rfl⟩ := List.getElem_of_mem he
  have hi' : i < es.size := by simpa using hi
  exact ⟨i, by rw [Array.getElem_toList]; exact Array.getElem?_eq_getElem hi'⟩

theorem W.exp (s b : Nat) {zc : List Value} {za : Bool} {val : List Value → D} {has : List Value → Bool} {zs : List Value} {ag : Bool} (hs : st.σ[s]? = some (.mv b)) (hb : st.h[b]? = some (.mp zc za val has [] zs ag)) (ht : topC (nF fs) = true)
    (h : ∀ es clock, MFacts es clock has zs ag → W c P nr (nF fs) ⟨st.σ, st.h.set b (.mx es clock zc za val has zs ag)⟩ K) : W c P nr fs st K := by
  refine nf_ok (n := 2000) ?_
  show W c P nr (nF fs) st K
  generalize nF fs = gs at *
  unfold topC at ht
  split at ht
  · rename_i bd r
    intro rd E g a w Q hN hr hK
    have hrep := hr.sl.at_ s _ hs
    obtain ⟨blk, cc, _, hβ⟩ := hrep.mv_inv
    obtain ⟨es, clock, hw, M⟩ := (hr.wd.obj b _ blk cc hb hβ).1
    have hmem : ∀ {e : MapEntry}, e ∈ es.toList → ∃ i : Nat, es[i]? = some e := fun he => by
      exact idxOf he
    have F1 : ∀ e ∈ es.toList, ∃ K, e.key = mkK ag K ∧ likeV zs K = true ∧ has K = true := fun e he => by
      obtain ⟨i, hi⟩ := hmem he
      obtain ⟨K, k1, _, k3, k4⟩ := M.at_ i e hi
      refine ⟨K, k1, k4, ?_⟩
      cases hh : has K with
      | true => rfl
      | false => exact absurd (k3 hh) (by simp)
    have F2 : ∀ K, has K = true → ∃ e ∈ es.toList, e.key = mkK ag K ∧ likeV zs K = true := fun K hK => by
      obtain ⟨i, e, k1, k2, k3⟩ := M.all K hK
      exact ⟨e, Array.mem_toList_iff.2 (Array.mem_of_getElem? k1), k2, k3⟩
    have F3 : ∀ e ∈ es.toList, e.born < clock := fun e he => by
      obtain ⟨i, hi⟩ := hmem he
      exact M.lt i e hi
    have F4 : ∀ e ∈ es.toList, ∀ e' ∈ es.toList, e.born = e'.born → e = e' := fun e he e' he' hb => by
      obtain ⟨i, hi⟩ := hmem he
      obtain ⟨j, hj⟩ := hmem he'
      have := M.born i j e e' hi hj hb
      subst this
      rw [hi] at hj
      cases hj
      rfl
    have F : MFacts es clock has zs ag := ⟨F1, F2, F3, F4⟩
    have hW : Wd E (st.h.set b (.mx es clock zc za val has zs ag)) g w := hr.wd.setM (o' := .mx es clock zc za val has zs ag) hb hβ rfl (fun _ _ => rfl) rfl rfl rfl rfl ⟨hw, M⟩ rfl (fun e => by cases e) (fun _ x K c' h1 => h1)
    exact h es clock F rd E g a w Q hN ⟨hr.sl, hW, hr.df.set hb (fun e => by cases e)⟩ hK
  · cases ht

theorem OpS.range {o : Oper} {K : St → Prop} {t : TypeId} {m : Operand} {b : Nat} {es : Array MapEntry} {clock : Nat} {zc : List Value} {za : Bool} {val : List Value → D} {has : List Value → Bool} {zs : List Value} {ag : Bool} {kt el : TypeId}
    (ho : o.op = .range t m) (hu : P.underlying t = some (.map kt el)) (hm : ev st.σ m = .mv b) (hb : st.h[b]? = some (.mx es clock zc za val has zs ag)) (h : K ⟨putS st.σ o.dst (.bp st.h.length 0), st.h ++ [.it b clock #[] clock]⟩) : OpS P o st K := by
  intro rd E g a w next Q hr hn
  have hrep : Rep g.H g.β (ev st.σ m) (a.eval m) := ev_rep (fun t _ => hr.sl.looks t)
  rw [hm] at hrep
  obtain ⟨blk, cc, hv, hβ⟩ := hrep.mv_inv
  obtain ⟨hw, M⟩ := (hr.wd.obj b _ blk cc hb hβ).1
  have hrun : (execOp a.eval o).run P w = .ok (.value (.pointer (some ⟨w.heap.size, 0, none⟩))) (w.alloc (.mapIter (some blk) clock #[] clock)) := by
    simp [execOp, ho, hv, Instr.range, run_underlying hu, MapKept.run_getObj_map hw]
  refine wpr_value (fun c e => by rw [ho] at e; cases e) hrun ?_
  have hno : g.β st.h.length = none := hr.wd.none_of_le _ (Nat.le_refl _)
  have hW := (hr.wd.more [.it b clock #[] clock] (by simp [HObj.gfree])).alloc st.h.length 0 hno (by simp) (.mapIter (some blk) clock #[] clock) (fun ob hob => by
    simp at hob; subst hob
    exact ⟨blk, cc, Bl.add_mono hno _ _ hβ, heap_alloc_self _ _⟩)
  exact hn _ _ _ _ h ⟨(hr.sl.mono (g' := ⟨g.H, g.β.add st.h.length w.heap.size 0⟩) (fun _ _ h => h) (Bl.add_mono hno)).putS o.dst (.bp (c := 0) (by simp [Bl.add])), hW, by rw [put_defers]; exact (hr.df.app).mono (fun _ h => h) (Bl.add_mono hno)⟩

theorem bp0_inv {H : Mem} {β : Bl} {b : Nat} {v : Value} (h : Rep H β (.bp b 0) v) : ∃ blk c, v = .pointer (some ⟨blk, 0, none⟩) ∧ β b = some (blk, c) := by
  cases h with
  | bp h => exact ⟨_, _, rfl, h⟩

theorem OpS.next {o : Oper} {K : St → Prop} {it : Operand} {id b since stepped : Nat} {seen : Array Nat} {es : Array MapEntry} {clock : Nat} {zc : List Value} {za : Bool} {val : List Value → D} {has : List Value → Bool} {zs : List Value} {ag : Bool}
    (ho : o.op = .next it false) (hi : ev st.σ it = .bp id 0) (hid : st.h[id]? = some (.it b since seen stepped)) (hb : st.h[b]? = some (.mx es clock zc za val has zs ag)) (hold : ∀ x ∈ es.toList, x.born < since) (hsc : since ≤ stepped) (hz : ag = false → zs.length = 1)
    (h1 : ∀ e ∈ es.toList, seen.contains e.born = false → ∀ k, e.key = mkK ag k → likeV zs k = true → has k = true → K ⟨putS st.σ o.dst (.d (.tu [dB true, kD ag k, val k])), st.h.set id (.it b since (seen.push e.born) clock)⟩)
    (h2 : (∀ e ∈ es.toList, seen.contains e.born = true) → K ⟨putS st.σ o.dst (.d (.tu [dB false])), st.h⟩) : OpS P o st K := by
  intro rd E g a w next Q hr hn
  have hrep : Rep g.H g.β (ev st.σ it) (a.eval it) := ev_rep (fun t _ => hr.sl.looks t)
  rw [hi] at hrep
  obtain ⟨blk, cc, hv, hβ⟩ := bp0_inv hrep
  obtain ⟨mb, mc, hβb, hw1⟩ := (hr.wd.obj id _ blk cc hid hβ).1
  obtain ⟨hw2, M⟩ := (hr.wd.obj b _ mb mc hb hβb).1
  rcases run_next_at (P := P) w o.type blk mb since stepped seen es clock hw1 hw2 hold hsc with ⟨hl, hrun⟩ | ⟨e, he, w1, hw, hrun⟩
  · refine wpr_value (v := .tuple #[.bool false]) (w' := w) (fun c e => by rw [ho] at e; cases e) (by simp [execOp, ho, hv, hrun]) ?_
    refine hn _ g _ w (h2 (fun e he => ?_)) ⟨hr.sl.putS o.dst (.d (.tu rfl (fun i x hx => ?_))), hr.wd, by rw [put_defers]; exact hr.df⟩
    · cases hc : seen.contains e.born with
      | true => rfl
      | false =>
        exfalso
        have : e ∈ leftOf es seen := by
          unfold leftOf
          rw [Array.mem_filter]
          exact ⟨Array.mem_toList_iff.1 he, by simp only [hc]; rfl⟩
        have hs := Array.size_pos_of_mem this
        omega
    · match i, hx with
      | 0, hx => simp at hx; subst hx; exact .v rfl
      | i + 1, hx => simp at hx
  · have hemem : e ∈ es.toList ∧ seen.contains e.born = false := by
      have := Array.mem_toList_iff.1 he
      unfold leftOf at this
      rw [Array.mem_filter] at this
      exact ⟨Array.mem_toList_iff.2 this.1, by simpa using this.2⟩
    obtain ⟨i, hi'⟩ : ∃ i : Nat, es[i]? = some e := by
      exact idxOf hemem.1
    obtain ⟨k, k1, k2, k3, k4⟩ := M.at_ i e hi'
    have hk : has k = true := by
      cases hh : has k with
      | true => rfl
      | false => have := k3 hh; cases this
    have hr1 : Rel E st g a w1 := by rcases hw with rfl | rfl <;> first | exact hr | exact hr.drew
    have hw11 : w1.heap[blk]? = some (.mapIter (some mb) since seen stepped) := by rcases hw with rfl | rfl <;> exact hw1
    refine wpr_value (v := .tuple #[.bool true, e.key, e.val]) (w' := ChangeMaps.setBlock w1 blk (.mapIter (some mb) since (seen.push e.born) clock)) (fun c e => by rw [ho] at e; cases e) (by simp [execOp, ho, hv, hrun]) ?_
    have hne : (HObj.it b since seen stepped) ≠ .df := fun e => by cases e
    have hW := hr1.wd.set (o' := .it b since (seen.push e.born) clock) hid hβ rfl (fun k hk => setBlock_other hk) setBlock_size rfl rfl rfl ⟨mb, mc, hβb, setBlock_same hw11⟩ rfl hne
    refine hn _ g _ _ (h1 e hemem.1 hemem.2 k k1 k4 hk) ⟨hr1.sl.putS o.dst (.d (.tu rfl (fun i x hx => ?_))), hW, by rw [put_defers]; exact hr1.df.set hid hne⟩
    match i, hx with
    | 0, hx => simp at hx; subst hx; exact .v rfl
    | 1, hx =>
      simp at hx; subst hx
      show RepD g.H (kD ag k) e.key
      rw [k1]
      exact kD_rep k4 (fun e => by rw [← likeV_len k4]; exact hz e) _
    | 2, hx => simp at hx; subst hx; exact k2
    | i + 3, hx => simp at hx

theorem OpS.entry {o : Oper} {K : St → Prop} {it : Operand} {id b since : Nat} {seen : Array Nat} {es : Array MapEntry} {clock : Nat} {zc : List Value} {za : Bool} {val : List Value → D} {has : List Value → Bool} {zs : List Value} {ag : Bool} {e : MapEntry} {k : List Value}
    (ho : o.op = .entry it) (hi : ev st.σ it = .bp id 0) (hid : st.h[id]? = some (.it b since (seen.push e.born) clock)) (hb : st.h[b]? = some (.mx es clock zc za val has zs ag)) (he : e ∈ es.toList) (hk : e.key = mkK ag k) (hl : likeV zs k = true) (hz : ag = false → zs.length = 1)
    (h : K ⟨putS st.σ o.dst (.d (.tu [kD ag k, val k])), st.h⟩) : OpS P o st K := by
  intro rd E g a w next Q hr hn
  have hrep : Rep g.H g.β (ev st.σ it) (a.eval it) := ev_rep (fun t _ => hr.sl.looks t)
  rw [hi] at hrep
  obtain ⟨blk, cc, hv, hβ⟩ := bp0_inv hrep
  obtain ⟨mb, mc, hβb, hw1⟩ := (hr.wd.obj id _ blk cc hid hβ).1
  obtain ⟨hw2, M⟩ := (hr.wd.obj b _ mb mc hb hβb).1
  have hnd : (es.toList.map (·.born)).Nodup := by
    unfold List.Nodup
    rw [List.pairwise_iff_getElem]
    intro i j hi hj hij heq
    rw [List.length_map, Array.length_toList] at hi hj
    rw [List.getElem_map, List.getElem_map, Array.getElem_toList, Array.getElem_toList] at heq
    have h1 := Array.getElem?_eq_getElem (xs := es) (i := i) hi
    have h2 := Array.getElem?_eq_getElem (xs := es) (i := j) hj
    have := M.born i j _ _ h1 h2 heq
    omega
  have hrun := run_entry_at (P := P) w blk mb since seen es clock e hw1 hw2 he hnd
  obtain ⟨i, hi'⟩ : ∃ i : Nat, es[i]? = some e := by
    exact idxOf he
  obtain ⟨k', k1, k2, k3, k4⟩ := M.at_ i e hi'
  have : k' = k := mkK_inj2 k4 hl hz (by rw [← k1, hk])
  subst this
  refine wpr_value (v := .tuple #[e.key, e.val]) (w' := w) (fun c e => by rw [ho] at e; cases e) (by simp [execOp, ho, hv, hrun]) ?_
  refine hn _ g _ w h ⟨hr.sl.putS o.dst (.d (.tu rfl (fun i x hx => ?_))), hr.wd, by rw [put_defers]; exact hr.df⟩
  match i, hx with
  | 0, hx =>
    simp at hx; subst hx
    show RepD g.H (kD ag k') e.key
    rw [hk]
    exact kD_rep hl (fun e => by rw [← likeV_len hl]; exact hz e) _
  | 1, hx => simp at hx; subst hx; exact k2
  | i + 2, hx => simp at hx

/-! ### maps told by functions -/
structure Codec (α : Type) where
  enc : α → List Value
  dec : List Value → Option α
  de : ∀ k, dec (enc k) = some k
  ed : ∀ c k, dec c = some k → enc k = c
  zs : List Value
  like : ∀ k, likeV zs (enc k) = true

def mval {α β : Type} (C : Codec α) (el : β → D) (z : D) (v : α → β) (c : List Value) : D :=
  match C.dec c with
  | some k => el (v k)
  | none => z
def mhas {α : Type} (C : Codec α) (s : α → Bool) (c : List Value) : Bool :=
  match C.dec c with
  | some k => s k
  | none => false

theorem eqb_codec {α : Type} (C : Codec α) (k : α) (c : List Value) : eqb (C.enc k) c = true ↔ C.dec c = some k := by
  rw [eqb_iff (C.like k)]
  constructor
  · rintro rfl; exact C.de k
  · intro h; exact C.ed c k h

theorem HConv.mp0 {α β : Type} (C : Codec α) (el : β → D) (x : β) {zc : List Value} {za : Bool} {zs : List Value} {ag : Bool} : HConv (.mp zc za (fun _ => el x) (fun _ => false) [] zs ag) (.mp zc za (mval C el (el x) fun _ => x) (mhas C fun _ => false) [] zs ag) :=
  .mp (fun K => by unfold mval; cases C.dec K <;> rfl) (fun K => by unfold mhas; cases C.dec K <;> rfl) (fun K hK => by cases hK)

open Classical in
/-- What is written. -/
noncomputable def upd {α β : Type} (v : α → β) (k : α) (x : β) : α → β := fun j => if j = k then x else v j

theorem HConv.mpPut {α β : Type} (C : Codec α) (el : β → D) (z : D) (v : α → β) (s : α → Bool) (k : α) (x : β) {zc : List Value} {za : Bool} {zs : List Value} {ag : Bool} {ps : List (List Value)} (hp : ∀ K ∈ ps, K = C.enc k) :
    HConv (.mp zc za (fun c => bif eqb (C.enc k) c then el x else mval C el z v c) (fun c => eqb (C.enc k) c || mhas C s c) ps zs ag) (.mp zc za (mval C el z (upd v k x)) (mhas C (upd s k true)) [] zs ag) := by
  refine .mp (fun K => ?_) (fun K => ?_) (fun K hK => .inl ?_)
  · cases h : eqb (C.enc k) K with
    | true => have := (eqb_codec C k K).1 h; simp [mval, this, upd]
    | false =>
      cases h2 : C.dec K with
      | none => simp [mval, h2]
      | some k' =>
        have hne : k' ≠ k := fun e => by subst e; rw [(eqb_codec C k' K).2 h2] at h; cases h
        simp [mval, h2, upd, hne]
  · cases h : eqb (C.enc k) K with
    | true => have := (eqb_codec C k K).1 h; simp [mhas, this, upd]
    | false =>
      cases h2 : C.dec K with
      | none => simp [mhas, h2]
      | some k' =>
        have hne : k' ≠ k := fun e => by subst e; rw [(eqb_codec C k' K).2 h2] at h; cases h
        simp [mhas, h2, upd, hne]
  · rw [hp K hK]
    simp [mhas, C.de, upd]

/-- Some keys may come. -/
theorem HConv.mpPend {zc : List Value} {za : Bool} {val : List Value → D} {has : List Value → Bool} {zs : List Value} {ag : Bool} (ps : List (List Value)) : HConv (.mp zc za val has [] zs ag) (.mp zc za val has ps zs ag) :=
  .mp (fun _ => rfl) (fun _ => rfl) (fun K hK => by cases hK)
end
end Go.Jo
