/- What stands for what; a contract out of a body's walk. Over any program. -/
import Derived.Test.YtcmlhhjnbopbnaaJoJ14
import Derived.RangeFuncLeaves
import Derived.RangeFuncRecord
namespace Go.Jo
open Go.RowKit
set_option autoImplicit false

/-- One abstract value may stand for another. -/
def Conv (x y : AV) : Prop := ∀ H β v, Rep H β x v → Rep H β y v
/-- One datum may stand for another. -/
def DEq (x y : D) : Prop := ∀ H v, RepD H x v → RepD H y v

theorem Conv.refl (x : AV) : Conv x x := fun _ _ _ h => h
theorem Conv.junk (x : AV) : Conv x .junk := fun _ _ _ _ => .junk
theorem Conv.of_eq {x y : AV} (h : x = y) : Conv x y := fun _ _ _ k => h ▸ k
theorem Conv.trans {x y z : AV} (h : Conv x y) (k : Conv y z) : Conv x z := fun H β v r => k H β v (h H β v r)
theorem DEq.refl (x : D) : DEq x x := fun _ _ h => h
theorem DEq.of_eq {x y : D} (h : x = y) : DEq x y := fun _ _ k => h ▸ k
theorem DEq.trans {x y z : D} (h : DEq x y) (k : DEq y z) : DEq x z := fun H v r => k H v (h H v r)
theorem Conv.d {x y : D} (h : DEq x y) : Conv (.d x) (.d y) := fun _ _ _ k => .d (h _ _ k.data)
theorem Conv.opt {c : Bool} {x : AV} (h : c = true) : Conv (.opt c x) x := fun _ _ _ k => by cases k with | opt h1 _ => exact h1 h

/-- Slices alike element by element. -/
theorem DEq.sl {k n : Nat} {f f' : Nat → List D} (hl : ∀ i, i < n → (f' i).length = (f i).length) (h : ∀ (i j : Nat) (x y : D), i < n → (f i)[j]? = some x → (f' i)[j]? = some y → DEq x y) : DEq (.sl k n f) (.sl k n f') := by
  intro H v r
  cases r with
  | sl val hc hm hz hll h1 hH hr =>
    refine .sl val hc hm hz (fun i hi => by rw [hl i hi]; exact hll i hi) h1 hH (fun i j y hi hy => ?_)
    have hj : j < (f i).length := by rw [← hl i hi]; exact (List.getElem?_eq_some_iff.1 hy).1
    exact h i j _ y hi (List.getElem?_eq_getElem hj) hy H _ (hr i j _ hi (List.getElem?_eq_getElem hj))

theorem DEq.sl_eq {k n : Nat} {f f' : Nat → List D} (h : ∀ i, i < n → f i = f' i) : DEq (.sl k n f) (.sl k n f') :=
  DEq.sl (fun i hi => by rw [h i hi]) (fun i j x y hi hx hy => by rw [h i hi, hy] at hx; cases hx; exact DEq.refl _)

/-- The nil slice. -/
theorem DEq.nil (k : Nat) (f : Nat → List D) : DEq (.v (.slice none 0 0)) (.sl k 0 f) := by
  intro H v r
  cases r
  exact .sl (fun _ _ => undef) (Nat.le_refl _) (Nat.zero_le _) (fun _ => rfl) (fun i hi => by omega) (fun i j hi => by omega) (fun i j hi => by omega) (fun i j x hi => by omega)

theorem DEq.ag {xs ys : List D} (hl : xs.length = ys.length) (h : ∀ (i : Nat) x y, xs[i]? = some x → ys[i]? = some y → DEq x y) : DEq (.ag xs) (.ag ys) := by
  intro H v r
  cases r with
  | ag hs hh =>
    refine .ag (by rw [hs, hl]) (fun i y hy => ?_)
    have hi : i < xs.length := by rw [hl]; exact (List.getElem?_eq_some_iff.1 hy).1
    exact h i _ y (List.getElem?_eq_getElem hi) hy H _ (hh i _ (List.getElem?_eq_getElem hi))

theorem DEq.tu {xs ys : List D} (hl : xs.length = ys.length) (h : ∀ (i : Nat) x y, xs[i]? = some x → ys[i]? = some y → DEq x y) : DEq (.tu xs) (.tu ys) := by
  intro H v r
  cases r with
  | tu hs hh =>
    refine .tu (by rw [hs, hl]) (fun i y hy => ?_)
    have hi : i < xs.length := by rw [hl]; exact (List.getElem?_eq_some_iff.1 hy).1
    exact h i _ y (List.getElem?_eq_getElem hi) hy H _ (hh i _ (List.getElem?_eq_getElem hi))

def convL : List AV → List AV → Prop
  | [], [] => True
  | x :: l, y :: l' => Conv x y ∧ convL l l'
  | _, _ => False

theorem convL_spec : ∀ {l l' : List AV}, convL l l' → l.length = l'.length ∧ ∀ (i : Nat) y, l'[i]? = some y → ∃ x, l[i]? = some x ∧ Conv x y
  | [], [], _ => ⟨rfl, fun i y h => by simp at h⟩
  | x :: l, y :: l', h => by
    obtain ⟨h1, h2⟩ := convL_spec h.2
    refine ⟨by simp [h1], fun i z hz => ?_⟩
    cases i with
    | zero => simp at hz; subst hz; exact ⟨x, rfl, h.1⟩
    | succ i => obtain ⟨x', hx', hc⟩ := h2 i z (by simpa using hz); exact ⟨x', by simpa using hx', hc⟩
  | [], _ :: _, h => by cases h
  | _ :: _, [], h => by cases h

theorem convL_refl : ∀ l : List AV, convL l l
  | [] => trivial
  | x :: l => ⟨Conv.refl x, convL_refl l⟩

/-- One object may stand for another. -/
inductive HConv : HObj → HObj → Prop
  | refl (o : HObj) : HConv o o
  | box {w : Bool} {cs cs' : List AV} {t : TypeId} (h : convL cs cs') : HConv (.box w cs t) (.box w cs' t)
  | row {k n : Nat} {f f' : Nat → List D} {t : TypeId} (h : ∀ i, i < n → f i = f' i) : HConv (.row k n f t) (.row k n f' t)
  | ghost {xs xs' : List AV} {vs : Array Value} {ds : List Deferred} (h : convL xs xs') : HConv (.ghost xs vs ds) (.ghost xs' vs ds)
  | lp {s : LoopState} {p : Option Code} {L : Loop} {xs xs' : List AV} (h : convL xs xs') : HConv (.lp s p L xs) (.lp s p L xs')
  | mp {zc : List Value} {za : Bool} {val val' : List Value → D} {has has' : List Value → Bool} {ps ps' : List (List Value)} {zs : List Value} {ag : Bool} (hv : ∀ K, val K = val' K) (hh : ∀ K, has K = has' K) (hp : ∀ K ∈ ps, has' K = true ∨ K ∈ ps') :
      HConv (.mp zc za val has ps zs ag) (.mp zc za val' has' ps' zs ag)

def HObj.ok (m : Nat) : HObj → Bool
  | .box _ cs _ => AV.ok.okL m cs
  | .ghost xs _ _ => AV.ok.okL m xs
  | .lp _ _ _ xs => AV.ok.okL m xs
  | .en b _ => decide (b < m)
  | .it b _ _ _ => decide (b < m)
  | _ => true

def hconvL : List HObj → List HObj → Prop
  | _, [] => True
  | x :: l, y :: l' => HConv x y ∧ hconvL l l'
  | [], _ :: _ => False

theorem hconvL_spec : ∀ {l l' : List HObj}, hconvL l l' → l'.length ≤ l.length ∧ ∀ (i : Nat) y, l'[i]? = some y → ∃ x, l[i]? = some x ∧ HConv x y
  | _, [], _ => ⟨Nat.zero_le _, fun i y h => by simp at h⟩
  | x :: l, y :: l', h => by
    obtain ⟨h1, h2⟩ := hconvL_spec h.2
    refine ⟨by simp [h1], fun i z hz => ?_⟩
    cases i with
    | zero => simp at hz; subst hz; exact ⟨x, rfl, h.1⟩
    | succ i => obtain ⟨x', hx', hc⟩ := h2 i z (by simpa using hz); exact ⟨x', by simpa using hx', hc⟩
  | [], _ :: _, h => by cases h

def HObj.nodf : HObj → Bool
  | .df => false
  | _ => true

def okAll (m : Nat) (h : List HObj) : Bool := h.all (HObj.ok m)

/-- Slots forgotten, objects of the end forgotten. -/
theorem St.le_mk {σ σ' : List AV} {h h' : List HObj} (hσ : convL σ σ') (hh : hconvL h h') (ok1 : AV.ok.okL h'.length σ' = true) (ok2 : okAll h'.length h' = true) (ok3 : (h.drop h'.length).all HObj.nodf = true) : St.le ⟨σ, h⟩ ⟨σ', h'⟩ := by
  intro E g a w r
  obtain ⟨s1, s2⟩ := convL_spec hσ
  obtain ⟨t1, t2⟩ := hconvL_spec hh
  have cutm : ∀ {i : Nat} {x : Nat × Nat}, g.β.cut h'.length i = some x → i < h'.length ∧ g.β i = some x := by
    intro i x hx
    unfold Bl.cut at hx
    split at hx
    · exact ⟨by assumption, hx⟩
    · cases hx
  have enx : ∀ {i : Nat}, i < h'.length → enAt h i → enAt h' i := fun {i} hlt ⟨o, q1, q2⟩ => by
    obtain ⟨x, hx, hc⟩ := t2 i _ (List.getElem?_eq_getElem hlt)
    rw [q1] at hx; cases hx
    refine ⟨_, List.getElem?_eq_getElem hlt, ?_⟩
    generalize h'[i] = y at hc
    cases hc <;> first | exact q2 | cases q2
  have mks : ∀ {ds : List Deferred}, Mks h g.β ds → Mks h' (g.β.cut h'.length) ds := fun k d hd => by
    obtain ⟨i, blk, c, d1, d2, d3⟩ := k d hd
    have hlt : i < h'.length := by
      refine Nat.lt_of_not_le (fun hge => ?_)
      have : (h.drop h'.length)[i - h'.length]? = some HObj.df := by rw [List.getElem?_drop, show h'.length + (i - h'.length) = i by omega]; exact d2
      have := (List.all_eq_true.1 ok3) _ (List.mem_of_getElem? this)
      cases this
    obtain ⟨x, hx, hc⟩ := t2 i _ (List.getElem?_eq_getElem hlt)
    rw [d2] at hx; cases hx
    refine ⟨i, blk, c, d1, ?_, (if_pos hlt).trans d3⟩
    show h'[i]? = some HObj.df
    rw [List.getElem?_eq_getElem hlt]
    generalize h'[i] = o at hc
    cases hc
    rfl
  refine ⟨⟨g.H, g.β.cut h'.length⟩, ⟨by rw [r.sl.size]; exact s1, fun i y hy => ?_⟩, ⟨r.wd.imm, fun i o b c ho hβ => ?_, fun i b c hβ => ?_, fun i b c p x hβ hp => r.wd.sep i b c p x (cutm hβ).2 hp, fun i j b c c' h1 h2 => (r.wd.inj i j b c c' (cutm h1).2 (cutm h2).2).imp id (Or.imp (enx (cutm h1).1) (enx (cutm h2).1)), r.wd.fr, fun i ys vs ds hi => ?_⟩, ⟨r.df.1, r.df.2.1, mks r.df.2.2⟩⟩
  · obtain ⟨x, hx, hc⟩ := s2 i y hy
    exact (hc _ _ _ (r.sl.at_ i x hx)).cut _ (AV.okL_at ok1 i y hy)
  · obtain ⟨hi, hβ⟩ := cutm hβ
    obtain ⟨x, hx, hc⟩ := t2 i o ho
    obtain ⟨k1, k2⟩ := r.wd.obj i x b c hx hβ
    have hok : o.ok h'.length = true := (List.all_eq_true.1 ok2) o (List.mem_of_getElem? ho)
    have cutObj : ∀ {o : HObj}, o.ok h'.length = true → ObjRep g.H g.β w b c o → ObjRep g.H (g.β.cut h'.length) w b c o := by
      intro o hok h
      cases o with
      | box wr cs t => obtain ⟨vs, q1, q2, q3⟩ := h; exact ⟨vs, q1, q2, fun i x hx => (q3 i x hx).cut _ (AV.okL_at hok i x hx)⟩
      | row k n f t => exact h
      | ghost xs vs ds => trivial
      | lp s p L xs => obtain ⟨q1, q2, q3⟩ := h; exact ⟨q1, q2, fun i x hx => (q3 i x hx).cut _ (AV.okL_at hok i x hx)⟩
      | df => exact h
      | mp => exact h
      | mx => exact h
      | it b' since seen stepped =>
        obtain ⟨mb, cc, m0, m1⟩ := h
        simp only [HObj.ok, decide_eq_true_eq] at hok
        exact ⟨mb, cc, (if_pos hok).trans m0, m1⟩
      | en b' K =>
        obtain ⟨es, clock, cc, q, e, ag, m0, m1⟩ := h
        simp only [HObj.ok, decide_eq_true_eq] at hok
        exact ⟨es, clock, cc, q, e, ag, (if_pos hok).trans m0, m1⟩
      | dead => trivial
    cases hc with
    | refl => exact ⟨cutObj hok k1, k2⟩
    | box hcs =>
      obtain ⟨c1, c2⟩ := convL_spec hcs
      obtain ⟨vs, q1, q2, q3⟩ := k1
      exact ⟨cutObj hok ⟨vs, q1, by rw [q2]; exact c1, fun i y hy => by obtain ⟨x, hx, hcv⟩ := c2 i y hy; exact hcv _ _ _ (q3 i x hx)⟩, k2⟩
    | row hf =>
      obtain ⟨vs, q1, q2, q3, q4, q5, q6⟩ := k1
      exact ⟨⟨vs, q1, q2, q3, fun i hi => by rw [← hf i hi]; exact q4 i hi, q5, fun i j x hi hx => q6 i j x hi (by rw [hf i hi]; exact hx)⟩, k2⟩
    | ghost hcs => exact ⟨trivial, k2⟩
    | mp hv hh hp =>
      obtain ⟨es, clock, q1, M⟩ := k1
      refine ⟨⟨es, clock, q1, ⟨fun j e he => ?_, fun K hK => M.all K (by rw [hh K]; exact hK), fun K hK => by rw [← hv K]; exact M.zero K (by rw [hh K]; exact hK), M.keys, M.lt, M.born⟩⟩, k2⟩
      obtain ⟨K, m1, m2, m3, m4⟩ := M.at_ j e he
      refine ⟨K, m1, by rw [← hv K]; exact m2, fun hK => ?_, m4⟩
      rcases hp K (m3 (by rw [hh K]; exact hK)) with e1 | e1
      · rw [hK] at e1; cases e1
      · exact e1
    | lp hcs =>
      obtain ⟨c1, c2⟩ := convL_spec hcs
      obtain ⟨q1, q2, q3⟩ := k1
      exact ⟨cutObj hok ⟨q1, by rw [q2]; exact c1, fun i y hy => by obtain ⟨x, hx, hcv⟩ := c2 i y hy; exact hcv _ _ _ (q3 i x hx)⟩, k2⟩
  · obtain ⟨hi, hβ⟩ := cutm hβ
    exact ⟨hi, (r.wd.lt i b c hβ).2⟩
  · obtain ⟨x, hx, hc⟩ := t2 i _ hi
    have hok : (HObj.ghost ys vs ds).ok h'.length = true := (List.all_eq_true.1 ok2) _ (List.mem_of_getElem? hi)
    cases hc with
    | refl => exact ⟨fun j y hy => ((r.wd.gh i ys vs ds hx).1 j y hy).cut _ (AV.okL_at hok j y hy), mks (r.wd.gh i ys vs ds hx).2⟩
    | ghost hcs =>
      obtain ⟨c1, c2⟩ := convL_spec hcs
      refine ⟨fun j y hy => ?_, mks (r.wd.gh i _ vs ds hx).2⟩
      obtain ⟨z, hz, hcv⟩ := c2 j y hy
      exact (hcv _ _ _ ((r.wd.gh i _ vs ds hx).1 j z hz)).cut _ (AV.okL_at hok j y hy)

theorem St.le_refl (st : St) : St.le st st := fun _ g _ _ r => ⟨g, r⟩

/-! ### what a function hands back -/
mutual
/-- A value read as data, rows of one's own too. -/
def AV.frz (h : List HObj) : AV → Option D
  | .d x => some x
  | .ag cs => (frzs h cs).map .ag
  | .tu cs => (frzs h cs).map .tu
  | .ow b n k =>
    match h[b]? with
    | some (.row k' n' f _) => if k = k' ∧ n ≤ n' then some (.sl k n f) else none
    | _ => none
  | _ => none
def frzs (h : List HObj) : List AV → Option (List D)
  | [] => some []
  | x :: l =>
    match x.frz h, frzs h l with
    | some y, some ys => some (y :: ys)
    | _, _ => none
end

def frzR (h : List HObj) : List AV → Option D
  | [x] => x.frz h
  | xs => (AV.tu xs).frz h

/-- All that is new is handed over. -/
def endMem (E : Ctx) (H : Mem) (w : World) : Mem := fun p => match H p with
  | some x => some x
  | none => if E.w0.heap.size ≤ p.block then w.cell? p else none

section
variable {P : Program} {c : Cfg}

theorem endMem_mono (E : Ctx) (H : Mem) (w : World) : ∀ p x, H p = some x → endMem E H w p = some x := fun p x h => by simp [endMem, h]

mutual
theorem AV.frz_rep {E : Ctx} {h : List HObj} {g : G} {w : World} (hE : ∀ k, ¬ E.M k) (r : Wd E h g w) : ∀ {x : AV} {d : D} {v : Value}, Rep g.H g.β x v → x.frz h = some d → RepD (endMem E g.H w) d v
  | .d x, d, v, hx, e => by simp only [AV.frz, Option.some.injEq] at e; subst e; exact hx.data.mono (endMem_mono _ _ _)
  | .ag cs, d, v, hx, e => by
    simp only [AV.frz, Option.map_eq_some_iff] at e
    obtain ⟨ds, h1, rfl⟩ := e
    cases hx with
    | ag hs hh =>
      rename_i vs
      exact .ag (by rw [hs]; exact frzs_len h1) (fun i y hy => frzs_rep hE r (f := fun i => vs.getD i undef) hh h1 i y hy)
  | .tu cs, d, v, hx, e => by
    simp only [AV.frz, Option.map_eq_some_iff] at e
    obtain ⟨ds, h1, rfl⟩ := e
    cases hx with
    | tu hs hh =>
      rename_i vs
      exact .tu (by rw [hs]; exact frzs_len h1) (fun i y hy => frzs_rep hE r (f := fun i => vs.getD i undef) hh h1 i y hy)
  | .ow b n k, d, v, hx, e => by
    simp only [AV.frz] at e
    split at e
    · rename_i k' n' f t hb
      split at e
      · rename_i hc
        simp only [Option.some.injEq] at e
        subst e
        obtain ⟨rfl, hn⟩ := hc
        cases hx with
        | ow hβ hnc hm =>
          rename_i blk cc
          obtain ⟨⟨vs, q1, q2, q3, q4, q5, q6⟩, hwr⟩ := r.obj b _ blk cc hb hβ
          have hblk : E.w0.heap.size ≤ blk := (hwr rfl).resolve_right (hE blk)
          refine .sl (fun i j => vs.getD (i * k + j) undef) hnc hm (fun e => by cases e) (fun i hi => q4 i (by omega)) (fun i j hi hj => q5 i j (by omega) hj) (fun i j hi hj => ⟨_, rfl, ?_⟩) (fun i j y hi hy => (q6 i j y (by omega) hy).mono (endMem_mono _ _ _))
          rw [add_none, Nat.zero_add]
          unfold endMem
          split
          · rename_i x hx
            exact absurd rfl (r.sep b blk cc _ x hβ hx)
          · dsimp only
            rw [if_pos hblk, cell_block q1]
            refine getD_some ?_
            rw [q2]
            exact lt_mul (by omega) hj
        | owNil => exact .sl (fun _ _ => undef) (Nat.le_refl _) (Nat.zero_le _) (fun _ => rfl) (fun i hi => by omega) (fun i j hi => by omega) (fun i j hi => by omega) (fun i j x hi => by omega)
      · cases e
    · cases e
  | .rp _, _, _, _, e | .bp _ _, _, _, _, e | .ep _ _ _ _, _, _, _, e | .fn _ _ _, _, _, _, e | .opt _ _, _, _, _, e | .yl _, _, _, _, e | .mv _, _, _, _, e | .sm _, _, _, _, e | .junk, _, _, _, e => by simp [AV.frz] at e
theorem frzs_rep {E : Ctx} {h : List HObj} {g : G} {w : World} (hE : ∀ k, ¬ E.M k) (r : Wd E h g w) : ∀ {l : List AV} {ds : List D} {f : Nat → Value}, (∀ i x, l[i]? = some x → Rep g.H g.β x (f i)) → frzs h l = some ds → ∀ i y, ds[i]? = some y → RepD (endMem E g.H w) y (f i)
  | [], ds, f, hl, e, i, y, hy => by simp only [frzs, Option.some.injEq] at e; subst e; simp at hy
  | x :: l, ds, f, hl, e, i, y, hy => by
    simp only [frzs] at e
    split at e
    · rename_i y' ys h1 h2
      simp only [Option.some.injEq] at e
      subst e
      cases i with
      | zero => simp at hy; subst hy; exact AV.frz_rep hE r (hl 0 x rfl) h1
      | succ i => exact frzs_rep hE r (f := fun i => f (i + 1)) (fun i x hx => hl (i + 1) x (by simpa using hx)) h2 i y (by simpa using hy)
    · cases e
theorem frzs_len {h : List HObj} : ∀ {l : List AV} {ds : List D}, frzs h l = some ds → l.length = ds.length
  | [], ds, e => by simp only [frzs, Option.some.injEq] at e; subst e; rfl
  | x :: l, ds, e => by
    simp only [frzs] at e
    split at e
    · rename_i y ys h1 h2
      simp only [Option.some.injEq] at e
      subst e
      simp [frzs_len h2]
    · cases e
end

/-- The results' values. -/
def ares (c : Cfg) (st : St) : List ResultVar → (List AV → Prop) → Prop
  | [], K => K []
  | .tmp t :: l, K => ares c st l fun rs => K (st.σ.getD t .junk :: rs)
  | .cell a t :: l, K =>
    match c.T t with
    | some ti =>
      match ald ti st.h (st.σ.getD a .junk) with
      | .val p r => p ∧ ares c st l fun rs => K (r :: rs)
      | _ => False
    | none => False

/-- The body's end. -/
def aend (c : Cfg) (res : List ResultVar) (r : D) (e : Exit) (st : St) : Prop :=
  match e with
  | .normal | .ret => ares c st res fun rs => ∃ d, (frzR st.h rs = some d ∧ st.h.all HObj.gfree = true) ∧ DEq d r
  | _ => False

theorem ald_run {t : TypeId} {ti : TI} (hT : tiOf P t = some ti) {h : List HObj} {g : G} {w : World} (hs : Seen h g w) {av : AV} {v : Value} (hx : Rep g.H g.β av v) {p : Prop} {r : AV} (ha : ald ti h av = .val p r) (hp : p) :
    ∃ u, (do loadVar t (← asAddr v)).run P w = .ok u w ∧ Rep g.H g.β r u := by
  let a : Act := { tmps := #[v], defers := [] }
  have := ald_sound (P := P) (o := { dst := none, op := .load t (.tmp 0), type := 0, pos := "", after := #[], guard := none }) (a := a) hT hs (x := .tmp 0) (av := av) (by simpa [Act.eval, a] using hx) rfl
  rw [ha] at this
  obtain ⟨u, h1, h2⟩ := this hp
  refine ⟨u, ?_, h2⟩
  have hv : ∃ ad, v = .pointer (some ad) := by
    cases hx <;> first | exact ⟨_, rfl⟩ | (unfold ald at ha; cases ha)
  obtain ⟨ad, rfl⟩ := hv
  have h3 : ((loadVar t ad).run P w).andThen (fun v w => Result.ok (Next.value v) w) = .ok (.value u) w := by
    simpa [execOp, Instr.loadAt, Instr.sureAddr, Act.eval, a] using h1
  simp only [asAddr, Sem.run_bind, Sem.run_pure, Result.andThen_ok]
  cases hl : (loadVar t ad).run P w with
  | ok x w' => rw [hl] at h3; simp at h3; obtain ⟨rfl, rfl⟩ := h3; rfl
  | halt x w' => rw [hl] at h3; simp at h3

theorem frzR_rep {E : Ctx} {h : List HObj} {g : G} {w : World} (hE : ∀ k, ¬ E.M k) (r : Wd E h g w) {rs : List AV} {us : List Value} {d : D} (hl : us.length = rs.length)
    (hh : ∀ (i : Nat) x v, rs[i]? = some x → us[i]? = some v → Rep g.H g.β x v) (e : frzR h rs = some d) : RepD (endMem E g.H w) d (if h : us.length = 1 then us[0] else .tuple us.toArray) := by
  have tup : (AV.tu rs).frz h = some d → us.length ≠ 1 → RepD (endMem E g.H w) d (if h : us.length = 1 then us[0] else .tuple us.toArray) := by
    intro e hne
    rw [dif_neg hne]
    refine AV.frz_rep hE r (.tu (by simpa using hl) (fun i x hx => ?_)) e
    have hi : i < us.length := by rw [hl]; exact (List.getElem?_eq_some_iff.1 hx).1
    rw [Array.getD_eq_getD_getElem?, List.getElem?_toArray, List.getElem?_eq_getElem hi]
    exact hh i x _ hx (List.getElem?_eq_getElem hi)
  match rs, us, hl, hh, e, tup with
  | [x], [u], _, hh, e, _ => exact AV.frz_rep hE r (hh 0 x u rfl rfl) e
  | [], us, hl, _, e, tup => exact tup e (by rw [hl]; simp)
  | x :: y :: l, us, hl, _, e, tup => exact tup e (by rw [hl]; simp)
  | [x], [], hl, _, _, _ => simp at hl
  | [x], _ :: _ :: _, hl, _, _, _ => simp at hl

def resOne (tmps : Array Value) : ResultVar → Sem Value
  | .tmp t => pure (tmps.getD t undef)
  | .cell x t => do loadVar t (← asAddr (tmps.getD x undef))

theorem results_eq (fn : Func) (tmps : Array Value) : results fn tmps = (do let vs ← fn.results.mapM (resOne tmps); pure (if h : vs.size = 1 then vs[0] else .tuple vs)) := by
  unfold results
  congr 1
  first
    | done
    | (congr 1; funext x; cases x <;> rfl)

theorem ares_run (hc : c.OK P) {E : Ctx} {st : St} {g : G} {a : Act} {w : World} (hr : Rel E st g a w) : ∀ {l : List ResultVar} {K : List AV → Prop}, ares c st l K →
    ∃ (us : List Value) (rs : List AV), (l.mapM (resOne a.tmps)).run P w = .ok us w ∧ us.length = rs.length ∧
      (∀ (i : Nat) x v, rs[i]? = some x → us[i]? = some v → Rep g.H g.β x v) ∧ K rs
  | [], K, h => ⟨[], [], rfl, rfl, fun i x v h => by simp at h, h⟩
  | .tmp t :: l, K, h => by
    obtain ⟨us, rs, h1, h2, h3, h4⟩ := ares_run hc hr (l := l) h
    refine ⟨a.tmps.getD t undef :: us, st.σ.getD t .junk :: rs, ?_, by simp [h2], fun i x v hx hv => ?_, h4⟩
    · rw [List.mapM_cons, Sem.run_bind]
      show (Result.ok _ w).andThen _ = _
      rw [Result.andThen_ok, Sem.run_bind, h1, Result.andThen_ok, Sem.run_pure]
    · cases i with
      | zero => simp only [List.getElem?_cons_zero, Option.some.injEq] at hx hv; subst hx; subst hv; exact hr.sl.looks t
      | succ i => exact h3 i x v (by simpa using hx) (by simpa using hv)
  | .cell x t :: l, K, h => by
    unfold ares at h
    split at h
    · rename_i ti hti
      split at h
      · rename_i p r ha
        obtain ⟨us, rs, h1, h2, h3, h4⟩ := ares_run hc hr (l := l) h.2
        obtain ⟨u, k1, k2⟩ := ald_run (hc.T _ _ hti) hr.wd.seen (hr.sl.looks x) ha h.1
        refine ⟨u :: us, r :: rs, ?_, by simp [h2], fun i y v hy hv => ?_, h4⟩
        · rw [List.mapM_cons]
          rw [Sem.run_bind, show (resOne a.tmps (.cell x t)).run P w = .ok u w from k1, Result.andThen_ok, Sem.run_bind, h1, Result.andThen_ok, Sem.run_pure]
        · cases i with
          | zero => simp only [List.getElem?_cons_zero, Option.some.injEq] at hy hv; subst hy; subst hv; exact k2
          | succ i => exact h3 i y v (by simpa using hy) (by simpa using hv)
      · cases h
    · cases h

/-- The slots when a function is entered. -/
def slots0 (args : List AV) (n : Nat) : List AV := args ++ List.replicate (n - args.length) .junk

theorem slots0_sl {g : G} {args : List AV} {us : Array Value} {n : Nat} (hs : us.size = args.length) (h : ∀ i x, args[i]? = some x → Rep g.H g.β x (us.getD i undef)) :
    Sl (slots0 args n) g { tmps := us ++ Array.replicate (n - us.size) undef, defers := [] } := by
  refine ⟨by simp [slots0, hs], fun i x hx => ?_⟩
  unfold slots0 at hx
  by_cases hi : i < args.length
  · rw [List.getElem?_append_left hi] at hx
    have : (us ++ Array.replicate (n - us.size) undef).getD i undef = us.getD i undef := by
      rw [Array.getD_eq_getD_getElem?, Array.getD_eq_getD_getElem?, Array.getElem?_append_left (by rw [hs]; exact hi)]
    rw [this]
    exact h i x hx
  · rw [List.getElem?_append_right (by omega)] at hx
    have := List.mem_of_getElem? hx
    rw [List.mem_replicate] at this
    rw [this.2]; exact .junk

/-! ### the marks -/
def dfk : HObj → HObj
  | .df => .dead
  | o => o

theorem dfk_get {h : List HObj} {i : Nat} {o : HObj} (ho : (h.map dfk)[i]? = some o) : ∃ o0, h[i]? = some o0 ∧ o = dfk o0 := by
  rw [List.getElem?_map, Option.map_eq_some_iff] at ho
  obtain ⟨o0, h1, h2⟩ := ho
  exact ⟨o0, h1, h2.symm⟩

/-- Alike but for the blocks of deferred calls. -/
structure Sim (h : List HObj) (g : G) (w w' : World) : Prop where
  size : w'.heap.size = w.heap.size
  os : w'.os = w.os
  tape : w'.tape = w.tape
  output : w'.output = w.output
  at_ : ∀ k, (∀ i c, h[i]? = some HObj.df → g.β i ≠ some (k, c)) → w'.heap[k]? = w.heap[k]?

theorem Sim.refl (h : List HObj) (g : G) (w : World) : Sim h g w w := ⟨rfl, rfl, rfl, rfl, fun _ _ => rfl⟩

theorem Wd.undf {E : Ctx} {h : List HObj} {g : G} {w w' : World} (r : Wd E h g w) (s : Sim h g w w') (hg : ∀ o ∈ h, o.gfree = true) : Wd E (h.map dfk) g w' where
  imm p x hp := (World.cell?_of_block (s.at_ _ (fun i c _ hb => r.sep i _ c p x hb hp rfl))).trans (r.imm p x hp)
  obj i o b c ho hβ := by
    obtain ⟨o0, h0, rfl⟩ := dfk_get ho
    obtain ⟨k1, k2⟩ := r.obj i o0 b c h0 hβ
    cases o0 with
    | df => exact ⟨trivial, fun e => by cases e⟩
    | _ => exact ⟨k1.mono (fun _ _ h => h) (fun _ _ h => h) (s.at_ b (fun j c' hj hb => by
        rcases r.inj i j b c c' hβ hb with this | ⟨x, q1, q2⟩ | ⟨x, q1, q2⟩
        · subst this
          rw [h0] at hj; cases hj
        · have hd : w.heap[b]? = some (.deferred (some [])) := (r.obj j _ b c' hj hb).1
          cases x <;> try (cases q2; done)
          obtain ⟨es, clock, _, _, _, _, _, m1, _⟩ := (r.obj i _ b c q1 hβ).1
          rw [hd] at m1; cases m1
        · rw [hj] at q1; cases q1; cases q2)), k2⟩
  lt i b c hβ := ⟨by rw [List.length_map]; exact (r.lt i b c hβ).1, by rw [s.size]; exact (r.lt i b c hβ).2⟩
  sep := r.sep
  inj i j b c c' h1 h2 := by
    have k : ∀ {i : Nat}, enAt h i → enAt (h.map dfk) i := fun ⟨o, q1, q2⟩ => ⟨o, by rw [List.getElem?_map, q1]; cases o <;> first | rfl | (cases q2; done), q2⟩
    exact (r.inj i j b c c' h1 h2).imp id (Or.imp k k)
  fr := ⟨r.fr.mono, r.fr.new, fun k hk hM => (s.at_ k (fun i c hi hb => by
      rcases (r.obj i _ k c hi hb).2 rfl with h1 | h1
      · omega
      · exact hM h1)).trans (r.fr.frame k hk hM), by rw [s.size]; exact r.fr.size, s.os.trans r.fr.os, s.tape.trans r.fr.tape, s.output.trans r.fr.output⟩
  gh i xs vs ds hi := by
    obtain ⟨o0, h0, e⟩ := dfk_get hi
    cases o0 <;> simp only [dfk] at e <;> cases e
    exact absurd (hg _ (List.mem_of_getElem? h0)) (by simp [HObj.gfree])

theorem ald_dfk {ti : TI} {h : List HObj} {av : AV} : ald ti (h.map dfk) av = ald ti h av := by
  cases av <;> try rfl
  case bp b off =>
    unfold ald
    simp only [List.getElem?_map]
    cases h[b]? with
    | none => rfl
    | some o => cases o <;> rfl
  case ep b k i off =>
    unfold ald
    simp only [List.getElem?_map]
    cases h[b]? with
    | none => rfl
    | some o => cases o <;> rfl

mutual
theorem AV.frz_dfk {h : List HObj} : ∀ {x : AV}, x.frz (h.map dfk) = x.frz h
  | .d x => rfl
  | .ag cs => by simp only [AV.frz, frzs_dfk]
  | .tu cs => by simp only [AV.frz, frzs_dfk]
  | .ow b n k => by
    simp only [AV.frz, List.getElem?_map]
    cases h[b]? with
    | none => rfl
    | some o => cases o <;> rfl
  | .rp _ | .bp _ _ | .ep _ _ _ _ | .fn _ _ _ | .opt _ _ | .yl _ | .mv _ | .sm _ | .junk => rfl
theorem frzs_dfk {h : List HObj} : ∀ {l : List AV}, frzs (h.map dfk) l = frzs h l
  | [] => rfl
  | x :: l => by simp only [frzs, AV.frz_dfk, frzs_dfk]
end

theorem frzR_dfk {h : List HObj} {l : List AV} : frzR (h.map dfk) l = frzR h l := by
  unfold frzR
  split <;> exact AV.frz_dfk

theorem ares_dfk {st : St} : ∀ {l : List ResultVar} {K : List AV → Prop}, ares c st l K → ares c ⟨st.σ, st.h.map dfk⟩ l K
  | [], K, h => h
  | .tmp t :: l, K, h => ares_dfk (l := l) (K := fun rs => K (st.σ.getD t .junk :: rs)) h
  | .cell a t :: l, K, h => by
    unfold ares at h ⊢
    split at h
    · rename_i ti hti
      simp only [hti, ald_dfk]
      split at h
      · rename_i p r ha
        exact ⟨h.1, ares_dfk (l := l) (K := fun rs => K (r :: rs)) h.2⟩
      · cases h
    · cases h

theorem leavesM {h : List HObj} {g : G} {F : Fence} {n : Nat} {fn : Func} {tmps : Array Value} {R : Ending → World → Prop} : ∀ (ds : List Deferred) (w : World), ds.Nodup →
    (∀ d ∈ ds, ∃ i blk cc, d = { target := .collected blk, args := #[] } ∧ h[i]? = some HObj.df ∧ g.β i = some (blk, cc) ∧ w.heap[blk]? = some (.deferred (some []))) →
    (∀ w', Sim h g w w' → ∃ v, (results fn tmps).run P w' = .ok v w' ∧ R (.returned v) w') → LeavesInM F n P fn tmps R ds .returning w
  | [], w, _, _, hR => hR w (Sim.refl h g w)
  | d :: ds, w, hn, hd, hR => by
    obtain ⟨i, blk, cc, rfl, h1, h2, h3⟩ := hd d (by simp)
    refine ⟨by simp, .inl ⟨blk, _, rfl, run_takeDeferred h3, leavesM (h := h) (g := g) ds _ (List.nodup_cons.1 hn).2 (fun d' hd' => ?_) (fun w' hs => hR w' ?_)⟩⟩
    · obtain ⟨i', blk', cc', rfl, k1, k2, k3⟩ := hd d' (by simp [hd'])
      refine ⟨i', blk', cc', rfl, k1, k2, (World.putObj_heap_other (fun e => ?_)).trans k3⟩
      subst e
      exact (List.nodup_cons.1 hn).1 hd'
    · exact ⟨hs.size.trans (by simp), hs.os, hs.tape, hs.output, fun k hk => (hs.at_ k hk).trans (World.putObj_heap_other (fun e => by subst e; exact hk i cc h1 h2))⟩

/-- The results, packed. -/
def packR (us : List Value) : Value := if h : us.length = 1 then us[0] else .tuple us.toArray

/-- A function leaves. -/
theorem leaves_end (hc : c.OK P) {E : Ctx} {st : St} {g : G} {a : Act} {w : World} (hr : Rel E st g a w) (hgf : ∀ o ∈ st.h, o.gfree = true) {F : Fence} {n : Nat} {fn : Func} {R : Ending → World → Prop} {K : List AV → Prop} (hres : ares c st fn.results.toList K)
    (hR : ∀ (us : List Value) rs w', Wd E (st.h.map dfk) g w' → us.length = rs.length → (∀ (i : Nat) x v, rs[i]? = some x → us[i]? = some v → Rep g.H g.β x v) → K rs → R (.returned (packR us)) w') : LeavesInM F n P fn a.tmps R a.defers .returning w := by
  refine leavesM (h := st.h) (g := g) a.defers w hr.df.1 (fun d hd => ?_) (fun w' hs => ?_)
  · obtain ⟨i, blk, cc, h1, h2, h3⟩ := hr.df.2.2 d hd
    exact ⟨i, blk, cc, h1, h2, h3, (hr.wd.obj i _ blk cc h2 h3).1⟩
  · have hw := hr.wd.undf hs hgf
    have hr' : Rel E ⟨st.σ, st.h.map dfk⟩ g { tmps := a.tmps, defers := [] } w' := ⟨⟨hr.sl.size, hr.sl.at_⟩, hw, ⟨List.nodup_nil, fun _ => rfl, fun d hd => by simp at hd⟩⟩
    obtain ⟨us, rs, h1, h2, h3, h4⟩ := ares_run hc hr' (ares_dfk hres)
    refine ⟨packR us, ?_, hR us rs w' hw h2 h3 h4⟩
    rw [results_eq, Array.mapM_eq_mapM_toList]
    simp only [Sem.run_bind, Sem.run_map, h1, Result.andThen_ok, Sem.run_pure]
    rfl

/-- A function entered; its end. -/
theorem entered (hc : c.OK P) {fn : Func} {args : List D} {r : D} {H : Mem} {vs : Array Value} {w : World} (hs : vs.size = args.length) (hargs : ∀ i x, args[i]? = some x → RepD H x (vs.getD i undef)) (himm : ∀ p x, H p = some x → w.cell? p = some x) :
    Rel ⟨w, H, fun _ => False, false⟩ ⟨slots0 (args.map .d) fn.ntmps, []⟩ ⟨H, fun _ => none⟩ { tmps := vs ++ Array.replicate (fn.ntmps - vs.size) undef, defers := [] } w ∧
    ∀ e st' g' a' w', aend c fn.results.toList r e st' → Rel ⟨w, H, fun _ => False, false⟩ st' g' a' w' →
      bodyPostM (FR none) 0 P fn (fun e w' => ∃ v H', e = .returned v ∧ RepD H' r v ∧ (∀ p x, H p = some x → H' p = some x) ∧ (∀ p x, H' p = some x → H p = some x ∨ w.heap.size ≤ p.block) ∧ (∀ p x, H' p = some x → w'.cell? p = some x) ∧ Below w.heap.size w w') e a' w' := by
  let E : Ctx := ⟨w, H, fun _ => False, false⟩
  have hr0 : Rel E ⟨slots0 (args.map .d) fn.ntmps, []⟩ ⟨H, fun _ => none⟩ { tmps := vs ++ Array.replicate (fn.ntmps - vs.size) undef, defers := [] } w := by
    refine ⟨slots0_sl (by simpa using hs) (fun i x hx => ?_), ⟨himm, fun i o b c ho => by simp at ho, fun i b c hβ => by simp at hβ, fun i b c p x hβ => by simp at hβ, fun i j b c c' hβ => by simp at hβ, Fr.refl w H _ _, fun i xs vs ds hi => by simp at hi⟩, ⟨List.nodup_nil, fun _ => rfl, fun d hd => by simp at hd⟩⟩
    rw [List.getElem?_map, Option.map_eq_some_iff] at hx
    obtain ⟨y, hy, rfl⟩ := hx
    exact .d (hargs i y hy)
  refine ⟨hr0, fun e st' g' a' w' he hr => ?_⟩
  have key : ares c st' fn.results.toList (fun rs => ∃ d, (frzR st'.h rs = some d ∧ st'.h.all HObj.gfree = true) ∧ DEq d r) →
      LeavesInM (FR none) 0 P fn a'.tmps (fun e w' => ∃ v H', e = .returned v ∧ RepD H' r v ∧ (∀ p x, H p = some x → H' p = some x) ∧ (∀ p x, H' p = some x → H p = some x ∨ w.heap.size ≤ p.block) ∧ (∀ p x, H' p = some x → w'.cell? p = some x) ∧ Below w.heap.size w w') a'.defers .returning w' := by
    intro hres
    obtain ⟨_, rs0, _, _, _, _, ⟨_, hgf⟩, _⟩ := ares_run hc hr hres
    refine leaves_end hc hr (List.all_eq_true.1 hgf) hres (fun us rs w'' hw h2 h3 h4 => ?_)
    obtain ⟨d, ⟨h4, _⟩, h5⟩ := h4
    have hE : ∀ k, ¬ E.M k := fun _ h => h
    have hrep := frzR_rep hE hw h2 h3 (by rw [frzR_dfk]; exact h4)
    refine ⟨_, endMem E g'.H w'', rfl, h5 _ _ hrep, fun p x hp => endMem_mono _ _ _ p x (hw.fr.mono p x hp), fun p x hp => ?_, fun p x hp => ?_, ?_⟩
    · unfold endMem at hp
      split at hp
      · rename_i y hy
        cases hp
        exact hw.fr.new p _ hy
      · split at hp
        · exact .inr (by assumption)
        · cases hp
    · unfold endMem at hp
      split at hp
      · rename_i y hy
        cases hp
        exact hw.imm p _ hy
      · split at hp
        · exact hp
        · cases hp
    · exact ⟨hw.fr.os, hw.fr.tape, hw.fr.output, hw.fr.size, fun k hk => hw.fr.frame k hk (fun h => h)⟩
  cases e with
  | normal => exact key he
  | ret => exact key he
  | exit id => cases he
  | goto l => cases he
  | panic ch => cases he
  | outgrown => cases he

end
end Go.Jo
