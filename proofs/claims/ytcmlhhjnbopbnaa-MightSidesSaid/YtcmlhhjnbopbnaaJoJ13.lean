/- A region that draws its order: one walk in the order of the text serves. Over any program. -/
import Derived.Test.YtcmlhhjnbopbnaaJoJ12
namespace Go.Jo
open Go.RowKit
set_option autoImplicit false
section
variable {P : Program} {c : Cfg}

theorem Run.trace {ops : Array Oper} {ps : List Oper} {st st' : St} {rs : List (AV × Option HObj)} (h : Run P ops ps st rs st') :
    ∃ (sts : Nat → St) (r : Nat → AV) (no : Nat → Option HObj), sts 0 = st ∧ sts ps.length = st' ∧
      ∀ i o, ps[i]? = some o → Yld P ops o (sts i).σ (sts i).h (r i) (no i) ∧ sts (i + 1) = ⟨putS (sts i).σ o.dst (r i), (sts i).h ++ (no i).toList⟩ := by
  induction h with
  | nil => rename_i st; exact ⟨fun _ => st, fun _ => .junk, fun _ => none, rfl, rfl, fun i o h => by simp at h⟩
  | cons hy h ih =>
    rename_i o rest st st' r0 no0 rs
    obtain ⟨sts, r, no, h1, h2, h3⟩ := ih
    refine ⟨fun i => match i with | 0 => st | i + 1 => sts i, fun i => match i with | 0 => r0 | i + 1 => r i, fun i => match i with | 0 => no0 | i + 1 => no i, rfl, by simpa using h2, fun i o' ho => ?_⟩
    cases i with
    | zero => simp only [List.getElem?_cons_zero, Option.some.injEq] at ho; subst ho; exact ⟨hy, h1⟩
    | succ i => exact h3 i o' (by simpa using ho)

theorem putS_getD {σ : List AV} {d : Option Tmp} {x : AV} {t : Tmp} (h : d ≠ some t) : (putS σ d x).getD t .junk = σ.getD t .junk := by
  cases d with
  | none => rfl
  | some d =>
    have : d ≠ t := fun e => h (by rw [e])
    simp [putS, List.getD_eq_getElem?_getD, List.getElem?_set, this]

theorem putS_length (σ : List AV) (d : Option Tmp) (x : AV) : (putS σ d x).length = σ.length := by cases d <;> simp [putS]

theorem putS_self {σ : List AV} {x : AV} {t : Tmp} (h : t < σ.length) : (putS σ (some t) x).getD t .junk = x := by
  simp [putS, List.getD_eq_getElem?_getD, h]

/-- The pure part of a region, as the text has it. -/
structure Tr (P : Program) (ops : Array Oper) (m : Nat) (sts : Nat → St) (r : Nat → AV) (no : Nat → Option HObj) : Prop where
  at_ : ∀ i o, i < m → ops[i]? = some o → Yld P ops o (sts i).σ (sts i).h (r i) (no i) ∧ sts (i + 1) = ⟨putS (sts i).σ o.dst (r i), (sts i).h ++ (no i).toList⟩

variable {ops : Array Oper} {m : Nat} {sts : Nat → St} {r : Nat → AV} {no : Nat → Option HObj}

theorem Tr.len (h : Tr P ops m sts r no) (hm : m ≤ ops.size) : ∀ i, i ≤ m → (sts i).σ.length = (sts 0).σ.length := by
  intro i
  induction i with
  | zero => intro _; rfl
  | succ i ih => intro hi; rw [(h.at_ i _ (by omega) (Array.getElem?_eq_getElem (by omega))).2, putS_length]; exact ih (by omega)

theorem Tr.old (h : Tr P ops m sts r no) (hm : m ≤ ops.size) {t : Tmp} : ∀ i, i ≤ m → (∀ k o, k < i → ops[k]? = some o → o.dst ≠ some t) → (sts i).σ.getD t .junk = (sts 0).σ.getD t .junk := by
  intro i
  induction i with
  | zero => intro _ _; rfl
  | succ i ih =>
    intro hi hn
    have ho := Array.getElem?_eq_getElem (xs := ops) (i := i) (by omega)
    rw [(h.at_ i _ (by omega) ho).2, putS_getD (hn i _ (by omega) ho)]
    exact ih (by omega) (fun k o hk => hn k o (by omega))

theorem Tr.new (h : Tr P ops m sts r no) (hm : m ≤ ops.size) {t : Tmp} {k : Nat} {ok : Oper} (hk : ops[k]? = some ok) (hd : ok.dst = some t) (ht : t < (sts 0).σ.length)
    (hu : ∀ i o, i < m → i ≠ k → ops[i]? = some o → o.dst ≠ some t) : ∀ i, i ≤ m → k < i → (sts i).σ.getD t .junk = r k := by
  intro i
  induction i with
  | zero => intro _ h0; omega
  | succ i ih =>
    intro hi hki
    have ho := Array.getElem?_eq_getElem (xs := ops) (i := i) (by omega)
    rw [(h.at_ i _ (by omega) ho).2]
    by_cases e : i = k
    · subst e
      rw [ho] at hk; cases hk
      rw [hd]
      exact putS_self (by rw [h.len hm i (by omega)]; exact ht)
    · rw [putS_getD (hu i _ (by omega) e ho)]
      exact ih (by omega) (by omega)

theorem Tr.out (h : Tr P ops m sts r no) (hm : m ≤ ops.size) {t : Tmp} (ht : ¬ t < (sts 0).σ.length) (i : Nat) (hi : i ≤ m) : (sts i).σ.getD t .junk = .junk := by
  rw [List.getD_eq_getElem?_getD, List.getElem?_eq_none (by rw [h.len hm i hi]; exact Nat.le_of_not_lt ht)]; rfl

theorem Tr.pre (h : Tr P ops m sts r no) (hm : m ≤ ops.size) : ∀ j i, i + j ≤ m → (sts i).h <+: (sts (i + j)).h := by
  intro j
  induction j with
  | zero => intro i _; exact List.prefix_refl _
  | succ j ih =>
    intro i hi
    have ho := Array.getElem?_eq_getElem (xs := ops) (i := i + j) (by omega)
    rw [← Nat.add_assoc, (h.at_ (i + j) _ (by omega) ho).2]
    exact (ih i (by omega)).trans (List.prefix_append _ _)

theorem Tr.pfx (h : Tr P ops m sts r no) (hm : m ≤ ops.size) {i j : Nat} (hij : i ≤ j) (hj : j ≤ m) : (sts i).h <+: (sts j).h := by
  have := h.pre hm (j - i) i (by omega)
  rwa [show i + (j - i) = j by omega] at this

theorem Tr.obj (h : Tr P ops m sts r no) (hm : m ≤ ops.size) {i : Nat} (hi : i < m) {ob : HObj} (hno : no i = some ob) : (sts m).h[(sts i).h.length]? = some ob := by
  have ho := Array.getElem?_eq_getElem (xs := ops) (i := i) (by omega)
  have h1 := (h.at_ i _ hi ho).2
  obtain ⟨l, hl⟩ := h.pfx hm (show i + 1 ≤ m by omega) (Nat.le_refl _)
  rw [← hl, h1, hno]
  simp

theorem Tr.objlt (h : Tr P ops m sts r no) (hm : m ≤ ops.size) {i j : Nat} (hij : i < j) (hj : j ≤ m) {ob : HObj} (hno : no i = some ob) : (sts i).h.length < (sts j).h.length := by
  have ho := Array.getElem?_eq_getElem (xs := ops) (i := i) (by omega)
  have h1 := (h.at_ i _ (by omega) ho).2
  have h2 := (h.pfx hm (show i + 1 ≤ j by omega) hj).length_le
  rw [h1, hno] at h2
  simp at h2; omega

/-- What holds when some of the pure operations have been carried out. -/
structure Mid (E : Ctx) (ops : Array Oper) (m : Nat) (sts : Nat → St) (r : Nat → AV) (no : Nat → Option HObj) (hk : Nat → List HObj) (q : Nat) (listed : Array Bool) (g : G) (a : Act) (w : World) : Prop where
  size : listed.size = ops.size
  low : ∀ i, listed.getD i false = true → i < m + q
  mws : ∀ i, m ≤ i → i < m + q → listed.getD i false = true
  closed : ∀ i o k, listed.getD i false = true → ops[i]? = some o → bindsOn o k = true → listed.getD k false = true
  wd : Wd E (hk q) g w
  tmps : a.tmps.size = (sts 0).σ.length
  df : Dfr E (sts 0).h g.β a.defers
  new : ∀ k o t, listed.getD k false = true → ops[k]? = some o → o.dst = some t → t < (sts 0).σ.length → Rep g.H g.β (r k) (a.tmps.getD t undef)
  old : ∀ t, (∀ k o, listed.getD k false = true → ops[k]? = some o → o.dst ≠ some t) → Rep g.H g.β ((sts 0).σ.getD t .junk) (a.tmps.getD t undef)
  none_ : ∀ i ob, i < m → listed.getD i false = false → no i = some ob → g.β (sts i).h.length = none ∧ (hk q)[(sts i).h.length]? = some ob

/-- The writes into maps, in the order of the text. -/
structure MW (c : Cfg) (ops : Array Oper) (m e : Nat) (st : St) (hk : Nat → List HObj) : Prop where
  zero : hk 0 = st.h
  at_ : ∀ q o, q < e → ops[m + q]? = some o → mput c.T c.Q (hk q) (ev st.σ) o.op = some (hk (q + 1))

theorem MW.agr {c : Cfg} {e : Nat} {st : St} {hk : Nat → List HObj} (h : MW c ops m e st hk) (hle : m + e ≤ ops.size) : ∀ q, q ≤ e → ∀ (j : Nat) (ob : HObj), st.h[j]? = some ob → ob.isMp = false → (hk q)[j]? = some ob := by
  intro q
  induction q with
  | zero => intro _ j ob hj _; rw [h.zero]; exact hj
  | succ q ih =>
    intro hq j ob hj hm
    have ho := Array.getElem?_eq_getElem (xs := ops) (i := m + q) (by omega)
    obtain ⟨b, o, o', h1, h2, h3, h4⟩ := mput_shape (h.at_ q _ (by omega) ho)
    have := ih (by omega) j ob hj hm
    rw [h4]
    have hne : b ≠ j := fun e => by subst e; rw [h1] at this; cases this; rw [hm] at h2; cases h2
    rw [List.getElem?_set_ne hne]; exact this

theorem put_getD_self {a : Act} {t : Tmp} {v : Value} (h : t < a.tmps.size) : (a.put (some t) v).tmps.getD t undef = v := by
  simp [Act.put, Array.getD_eq_getD_getElem?, h]
theorem put_getD_ne {a : Act} {d : Option Tmp} {t : Tmp} {v : Value} (h : d ≠ some t) : (a.put d v).tmps.getD t undef = a.tmps.getD t undef := by
  cases d with
  | none => rfl
  | some d =>
    have : d ≠ t := fun e => h (by rw [e])
    simp only [Act.put, Array.getD_eq_getD_getElem?, Array.getElem?_setIfInBounds, if_neg this]
theorem put_size (a : Act) (d : Option Tmp) (v : Value) : (a.put d v).tmps.size = a.tmps.size := by cases d <;> simp [Act.put]

theorem Tr.more (h : Tr P ops m sts r no) (hm : m ≤ ops.size) {E : Ctx} {g : G} {w : World} (hw : Wd E (sts 0).h g w) : ∀ i, i ≤ m → Wd E (sts i).h g w := by
  intro i
  induction i with
  | zero => exact fun _ => hw
  | succ i ih =>
    intro hi
    have ho := Array.getElem?_eq_getElem (xs := ops) (i := i) (by omega)
    obtain ⟨hy, he⟩ := h.at_ i _ (by omega) ho
    rw [he]
    refine (ih (by omega)).more _ (fun ob hob => hy.1 ob ?_)
    cases e : no i with
    | none => rw [e] at hob; simp at hob
    | some x => rw [e] at hob; simp at hob; rw [hob]

theorem Mid.step {rd : Option Nat} {e q : Nat} {hk : Nat → List HObj} (ho : OrdOK ops m e) (ht : Tr P ops m sts r no) (hmw : MW c ops m e (sts m) hk) (hq : q ≤ e) {E : Ctx} {listed : Array Bool} {g : G} {a : Act} {w : World} (h : Mid E ops m sts r no hk q listed g a w) {i : Nat} (hi : i ∈ Region.ready .any ops listed) (him : i < m)
    {next : Act → World → Prop} {Q : Exit → Act → World → Prop} (hn : ∀ g' a' w', Mid E ops m sts r no hk q (listed.setIfInBounds i true) g' a' w' → next a' w') : wpOpIn (FR rd) 0 P ops Q i next a w := by
  obtain ⟨his, hif, o, hoi⟩ := ready_iff hi
  obtain ⟨hy, _⟩ := ht.at_ i o him hoi
  have hnl : listed.getD i false = false := getD_tf hif
  have hlk : ∀ t ∈ o.looksAt ops, Rep g.H g.β ((sts i).σ.getD t .junk) (a.tmps.getD t undef) := by
    intro t htl
    by_cases hlen : t < (sts 0).σ.length
    · by_cases hw : ∃ k ok, k < i ∧ ops[k]? = some ok ∧ ok.dst = some t
      · obtain ⟨k, ok, hk, hok, hd⟩ := hw
        have hkl : listed.getD k false = true := by
          rcases ho.look i k o ok t him (by omega) (by omega) hoi hok hd htl with h1 | h1
          · exact binds_ready hi hoi h1.2
          · omega
        rw [ht.new ho.le hok hd hlen (fun j oj hj hne hoj hdj => ho.dst j k oj ok t hj (by omega) (fun e => hne e.symm) hoj hok hd hdj) i (by omega) hk]
        exact h.new k ok t hkl hok hd hlen
      · rw [ht.old ho.le i (by omega) (fun k ok hk hok hd => hw ⟨k, ok, hk, hok, hd⟩)]
        refine h.old t (fun k ok hkl hok hd => ?_)
        have hkm : k < m := by
          by_cases hlt : k < m
          · exact hlt
          · have hk2 := h.low k hkl
            have := okStore_mw ho.st (List.mem_of_getElem? (show ops.toList[k]? = some ok by simpa using hok)) (ho.mw k ok (by omega) (by omega) hok).1
            rw [this] at hd; cases hd
        by_cases hki : k < i
        · exact hw ⟨k, ok, hki, hok, hd⟩
        · have hne : k ≠ i := fun e => by subst e; rw [hkl] at hnl; cases hnl
          rcases ho.look i k o ok t him hkm hne hoi hok hd htl with h1 | h1
          · omega
          · have := h.closed k ok i hkl hok h1.2
            rw [this] at hnl; cases hnl
    · rw [ht.out ho.le hlen i (by omega)]; exact .junk
  have hagr : Agr (mapRd o.op) (sts i).h (hk q) := by
    cases hrd : mapRd o.op with
    | true =>
      have hq0 : q = 0 := by
        by_cases h0 : q = 0
        · exact h0
        · exfalso
          have hml := h.mws m (Nat.le_refl _) (by omega)
          have hom := Array.getElem?_eq_getElem (xs := ops) (i := m) (by have := ho.le'; omega)
          have := h.closed m _ i hml hom (ho.mrd m _ i o (Nat.le_refl _) (by omega) hom him hoi hrd)
          rw [this] at hnl; cases hnl
      subst hq0
      rw [hmw.zero]
      exact Agr.pre (ht.pfx ho.le (by omega) (Nat.le_refl _))
    | false =>
      intro j ob hj hm
      have hm' : ob.isMp = false := by simpa using hm
      refine hmw.agr ho.le' q hq j ob ?_ hm'
      obtain ⟨l, hl⟩ := ht.pfx ho.le (show i ≤ m by omega) (Nat.le_refl _)
      rw [← hl, List.getElem?_append_left (List.getElem?_eq_some_iff.1 hj).1]; exact hj
  have hy' := hy.2 rd E g a w (hk q) hagr (fun ob hob => ⟨(h.none_ i ob him hnl hob).2, (h.none_ i ob him hnl hob).1⟩) h.wd hlk next Q (fun g' v w' k1 k2 k3 k4 k5 => by
    refine hn g' _ w' ⟨by simpa using h.size, fun j hj => ?_, fun j hj1 hj2 => (listed_set h.size his).2 (.inr (h.mws j hj1 hj2)), fun j oj k hj hoj hb => ?_, k4, by rw [put_size]; exact h.tmps, by rw [put_defers]; exact h.df.mono (fun _ h => h) k2, fun k ok t hk hok hd hlen => ?_, fun t hnone => ?_, fun j ob hj hjl hob => ?_⟩
    · rcases (listed_set h.size his).1 hj with e | e
      · omega
      · exact h.low j e
    · rw [listed_set h.size his]
      rcases (listed_set h.size his).1 hj with e | e
      · subst e
        rw [hoi] at hoj; cases hoj
        exact .inr (binds_ready hi hoi hb)
      · exact .inr (h.closed j oj k e hoj hb)
    · rcases (listed_set h.size his).1 hk with e | e
      · subst e
        rw [hoi] at hok; cases hok
        rw [hd, put_getD_self (by rw [h.tmps]; exact hlen)]
        exact k5
      · have hne : k ≠ i := fun e' => by subst e'; rw [e] at hnl; cases hnl
        have hkm : k < m := by
          by_cases hlt : k < m
          · exact hlt
          · have hk2 := h.low k e
            have := okStore_mw ho.st (List.mem_of_getElem? (show ops.toList[k]? = some ok by simpa using hok)) (ho.mw k ok (by omega) (by omega) hok).1
            rw [this] at hd; cases hd
        rw [put_getD_ne (fun hdi => ho.dst i k o ok t him hkm hne hoi hok hd hdi)]
        exact (h.new k ok t e hok hd hlen).mono k1 k2
    · rw [put_getD_ne (hnone i o ((listed_set h.size his).2 (.inl rfl)) hoi)]
      exact (h.old t (fun k ok hk hok => hnone k ok ((listed_set h.size his).2 (.inr hk)) hok)).mono k1 k2
    · have hji : j ≠ i := fun e => by
        subst e
        have := (listed_set h.size his (k := j)).2 (.inl rfl)
        rw [this] at hjl; cases hjl
      have hjl' : listed.getD j false = false := by
        cases e : listed.getD j false with
        | false => rfl
        | true => have := (listed_set h.size his).2 (.inr e); rw [this] at hjl; cases hjl
      obtain ⟨h0, h0'⟩ := h.none_ j ob hj hjl' hob
      refine ⟨?_, h0'⟩
      by_cases hsame : g'.β (sts j).h.length = g.β (sts j).h.length
      · rw [hsame]; exact h0
      · obtain ⟨hne, hlen⟩ := k3 _ hsame
        obtain ⟨ob', hob'⟩ : ∃ ob', no i = some ob' := by
          cases e : no i with
          | none => exact absurd e hne
          | some x => exact ⟨x, rfl⟩
        rcases Nat.lt_or_gt_of_ne hji with hlt | hgt
        · have := ht.objlt ho.le hlt (by omega) hob; omega
        · have := ht.objlt ho.le hgt (by omega) hob'; omega)
  unfold wpOpIn
  rw [hoi]
  dsimp only
  split
  · rename_i hwant; exact hy'.1 hwant
  · rename_i hwant; exact ⟨fun _ _ => trivial, hy'.2 (by simpa using hwant)⟩


/-- A write into a map comes. -/
theorem Mid.early {rd : Option Nat} (hc : c.OK P) {e q : Nat} {hk : Nat → List HObj} (ho : OrdOK ops m e) (ht : Tr P ops m sts r no) (hmw : MW c ops m e (sts m) hk) (hq : q < e) {E : Ctx} {listed : Array Bool} {g : G} {a : Act} {w : World} (h : Mid E ops m sts r no hk q listed g a w)
    (hi : m + q ∈ Region.ready .any ops listed) {next : Act → World → Prop} {Q : Exit → Act → World → Prop} (hn : ∀ g' a' w', Mid E ops m sts r no hk (q + 1) (listed.setIfInBounds (m + q) true) g' a' w' → next a' w') : wpOpIn (FR rd) 0 P ops Q (m + q) next a w := by
  obtain ⟨his, hif, o, hoi⟩ := ready_iff hi
  obtain ⟨hop, hgd⟩ := ho.mw (m + q) o (by omega) (by omega) hoi
  have hdst := okStore_mw ho.st (List.mem_of_getElem? (show ops.toList[m + q]? = some o by simpa using hoi)) hop
  have hlk : ∀ t ∈ o.looksAt ops, Rep g.H g.β ((sts m).σ.getD t .junk) (a.tmps.getD t undef) := by
    intro t htl
    by_cases hlen : t < (sts 0).σ.length
    · by_cases hw : ∃ k ok, k < m ∧ ops[k]? = some ok ∧ ok.dst = some t
      · obtain ⟨k, ok, hk', hok, hd⟩ := hw
        have hkl : listed.getD k false = true := binds_ready hi hoi (ho.mlook (m + q) o k ok t (by omega) (by omega) hoi hk' hok hd htl)
        rw [ht.new ho.le hok hd hlen (fun j oj hj hne hoj hdj => ho.dst j k oj ok t hj hk' (fun e => hne e.symm) hoj hok hd hdj) m (Nat.le_refl _) hk']
        exact h.new k ok t hkl hok hd hlen
      · rw [ht.old ho.le m (Nat.le_refl _) (fun k ok hk hok hd => hw ⟨k, ok, hk, hok, hd⟩)]
        refine h.old t (fun k ok hkl hok hd => ?_)
        by_cases hkm : k < m
        · exact hw ⟨k, ok, hkm, hok, hd⟩
        · have hk2 := h.low k hkl
          have := okStore_mw ho.st (List.mem_of_getElem? (show ops.toList[k]? = some ok by simpa using hok)) (ho.mw k ok (by omega) (by omega) hok).1
          rw [this] at hd; cases hd
    · rw [ht.out ho.le hlen m (Nat.le_refl _)]; exact .junk
  have he : ∀ x ∈ o.op.operands.toList, Rep g.H g.β (ev (sts m).σ x) (a.eval x) := fun x hx => ev_rep (fun t ht => by subst ht; exact hlk t (looks_operand hx))
  obtain ⟨w', hrun, hW⟩ := mput_sound hc.T hc.Q h.wd he (hmw.at_ q o hq hoi)
  obtain ⟨b, ob0, ob1, s1, s2, s3, s4, x, s5, s6⟩ := mput_shape' (hmw.at_ q o hq hoi)
  have hβb : g.β b ≠ none := by
    have := he x s5
    rw [s6] at this
    obtain ⟨blk, cc, _, hb⟩ := this.mv_inv
    rw [hb]; simp
  unfold wpOpIn
  rw [hoi]
  dsimp only
  rw [if_pos (by simp [Region.wanted, hgd])]
  refine wpr_skip (fun cc e => by rw [e] at hop; cases hop) hrun (hn g _ w' ?_)
  rw [hdst, show a.put none undef = a from rfl]
  refine ⟨by simpa using h.size, fun j hj => ?_, fun j hj1 hj2 => ?_, fun j oj k hj hoj hb => ?_, hW, h.tmps, h.df, fun k ok t hk' hok hd hlen => ?_, fun t hnone => ?_, fun j ob hj hjl hob => ?_⟩
  · rcases (listed_set h.size his).1 hj with e | e
    · omega
    · have := h.low j e; omega
  · by_cases e : j = m + q
    · exact (listed_set h.size his).2 (.inl e)
    · exact (listed_set h.size his).2 (.inr (h.mws j hj1 (by omega)))
  · rw [listed_set h.size his]
    rcases (listed_set h.size his).1 hj with e | e
    · subst e
      rw [hoi] at hoj; cases hoj
      exact .inr (binds_ready hi hoi hb)
    · exact .inr (h.closed j oj k e hoj hb)
  · rcases (listed_set h.size his).1 hk' with e | e
    · subst e
      rw [hoi] at hok; cases hok
      rw [hdst] at hd; cases hd
    · exact h.new k ok t e hok hd hlen
  · exact h.old t (fun k ok hk hok => hnone k ok ((listed_set h.size his).2 (.inr hk)) hok)
  · have hjl' : listed.getD j false = false := by
      cases e : listed.getD j false with
      | false => rfl
      | true => have := (listed_set h.size his).2 (.inr e); rw [this] at hjl; cases hjl
    obtain ⟨h0, h0'⟩ := h.none_ j ob hj hjl' hob
    refine ⟨h0, ?_⟩
    rw [s4, List.getElem?_set_ne (fun e => hβb (by rw [e]; exact h0))]
    exact h0'

/-- All pure operations have come: the state is the text's. -/
theorem Mid.done {e q : Nat} {hk : Nat → List HObj} (ho : OrdOK ops m e) (ht : Tr P ops m sts r no) (hmw : MW c ops m e (sts m) hk) (hq : q ≤ e) {E : Ctx} {listed : Array Bool} {g : G} {a : Act} {w : World} (h : Mid E ops m sts r no hk q listed g a w) (hall : ∀ i, i < m → listed.getD i false = true) : Rel E ⟨(sts m).σ, hk q⟩ g a w := by
  refine ⟨⟨by rw [h.tmps, ht.len ho.le m (Nat.le_refl _)], fun t x hx => ?_⟩, h.wd, h.df.mono (fun i hi => hmw.agr ho.le' q hq i _ (by
    obtain ⟨l, hl⟩ := ht.pfx ho.le (Nat.zero_le m) (Nat.le_refl _)
    rw [← hl, List.getElem?_append_left (List.getElem?_eq_some_iff.1 hi).1]; exact hi) rfl) (fun _ _ h => h)⟩
  have hlen : t < (sts 0).σ.length := by rw [← ht.len ho.le m (Nat.le_refl _)]; exact (List.getElem?_eq_some_iff.1 hx).1
  have hx' : (sts m).σ.getD t .junk = x := by rw [List.getD_eq_getElem?_getD, hx]; rfl
  rw [← hx']
  by_cases hw : ∃ k ok, k < m ∧ ops[k]? = some ok ∧ ok.dst = some t
  · obtain ⟨k, ok, hk, hok, hd⟩ := hw
    rw [ht.new ho.le hok hd hlen (fun j oj hj hne hoj hdj => ho.dst j k oj ok t hj hk (fun e => hne e.symm) hoj hok hd hdj) m (Nat.le_refl _) hk]
    exact h.new k ok t (hall k hk) hok hd hlen
  · rw [ht.old ho.le m (Nat.le_refl _) (fun k ok hk hok hd => hw ⟨k, ok, hk, hok, hd⟩)]
    refine h.old t (fun k ok hkl hok hd => ?_)
    by_cases hkm : k < m
    · exact hw ⟨k, ok, hkm, hok, hd⟩
    · have hk2 := h.low k hkl
      have := okStore_mw ho.st (List.mem_of_getElem? (show ops.toList[k]? = some ok by simpa using hok)) (ho.mw k ok (by omega) (by omega) hok).1
      rw [this] at hd; cases hd

/-- Behind the pure part: one order alone. -/
theorem any_tail {rd : Option Nat} (hc : c.OK P) {e : Nat} (ho : OrdOK ops m e) {E : Ctx} {K : St → Prop} {Q : Exit → Act → World → Prop} (hK : ∀ st' g' a' w', K st' → Rel E st' g' a' w' → Q .normal a' w') :
    ∀ (fuel : Nat) (i : Nat) (listed : Array Bool) (st : St) (g : G) (a : Act) (w : World), m + e ≤ i → left ops.size listed ≤ fuel → listed.size = ops.size → (∀ j, listed.getD j false = true ↔ j < i) → i ≤ ops.size →
      Rel E st g a w → aops c P ops (ops.toList.drop i) st K → wpAnyIn (FR rd) 0 P .any ops Q fuel listed a w := by
  intro fuel
  induction fuel with
  | zero =>
    intro i listed st g a w hm hl hs hd hi hr h
    have hall : ∀ j, j < ops.size → listed.getD j false = true := by
      intro j hj
      cases e : listed.getD j false with
      | true => rfl
      | false =>
        have hjj := getD_ft (by rw [hs]; exact hj) e
        have := List.length_pos_of_mem (a := j) (l := (List.range ops.size).filter fun i => !listed.getD i true) (by simp only [List.mem_filter, List.mem_range, Bool.not_eq_true']; exact ⟨hj, hjj⟩)
        unfold left at hl; omega
    have hin : i = ops.size := by
      by_cases e : i = ops.size
      · exact e
      · have := (hd i).1 (hall i (by omega)); omega
    refine ⟨?_, ?_⟩
    · cases hre : Region.ready .any ops listed with
      | nil => rfl
      | cons x l =>
        obtain ⟨h1, h2, _⟩ := ready_iff (ops := ops) (listed := listed) (i := x) (by rw [hre]; simp)
        have := getD_tf h2
        rw [hall x h1] at this; cases this
    · rw [List.drop_eq_nil_of_le (by simp; omega)] at h
      exact hK st g a w h hr
  | succ fuel ih =>
    intro i listed st g a w hm hl hs hd hi hr h
    by_cases hin : i = ops.size
    · have hall : ∀ j, j < ops.size → listed.getD j false = true := fun j hj => (hd j).2 (by omega)
      rw [List.drop_eq_nil_of_le (by simp; omega)] at h
      refine ⟨fun _ => hK st g a w h hr, fun j hj => ?_⟩
      obtain ⟨h1, h2, _⟩ := ready_iff hj
      have := getD_tf h2
      rw [hall j h1] at this; cases this
    · have hii : i < ops.size := by omega
      have hrdy : i ∈ Region.ready .any ops listed := ready_least ho hs hii (by cases e : listed.getD i false with | false => rfl | true => have := (hd i).1 e; omega) (fun j hj => (hd j).2 hj)
      refine ⟨fun e => (by rw [e] at hrdy; cases hrdy), fun j hj => ?_⟩
      obtain ⟨h1, h2, oj, hoj⟩ := ready_iff hj
      have hji : j = i := by
        have h3 : ¬ j < i := fun hlt => by have := getD_tf h2; rw [(hd j).2 hlt] at this; cases this
        by_cases hgt : i < j
        · have := binds_ready hj hoj (ho.wr j i oj (by omega) hoj hgt)
          have := (hd i).1 this; omega
        · omega
      subst hji
      have hdrop : ops.toList.drop j = oj :: ops.toList.drop (j + 1) := by
        have hoj' : ops.toList[j]? = some oj := by simpa using hoj
        obtain ⟨hlt, he⟩ := List.getElem?_eq_some_iff.1 hoj'
        rw [List.drop_eq_getElem_cons hlt, he]
      rw [hdrop] at h
      refine aops_one hc (okStore_spec ho.st (List.mem_of_getElem? (show ops.toList[j]? = some oj by simpa using hoj))) (okStore_mw ho.st (List.mem_of_getElem? (show ops.toList[j]? = some oj by simpa using hoj))) hr h hoj (fun st' g' a' w' h3 h4 => ?_)
      refine ih (j + 1) _ st' g' a' w' (by omega) (by have := left_set hs h1 h2; omega) (by simpa using hs) (fun k => ?_) (by omega) h4 h3
      rw [listed_set hs h1, hd k]; omega

theorem any_all {rd : Option Nat} (hc : c.OK P) {e : Nat} {hk : Nat → List HObj} (ho : OrdOK ops m e) (ht : Tr P ops m sts r no) (hmw : MW c ops m e (sts m) hk) {E : Ctx} {K : St → Prop} {Q : Exit → Act → World → Prop} (hK : ∀ st' g' a' w', K st' → Rel E st' g' a' w' → Q .normal a' w')
    (hw : aops c P ops (ops.toList.drop (m + e)) ⟨(sts m).σ, hk e⟩ K) : ∀ (fuel q : Nat) (listed : Array Bool) (g : G) (a : Act) (w : World), q ≤ e → left ops.size listed ≤ fuel → Mid E ops m sts r no hk q listed g a w → wpAnyIn (FR rd) 0 P .any ops Q fuel listed a w := by
  intro fuel
  have hdone : ∀ {listed : Array Bool} {g : G} {a : Act} {w : World}, Mid E ops m sts r no hk e listed g a w → (∀ i, i < m → listed.getD i false = true) → ∀ j, listed.getD j false = true ↔ j < m + e := fun h hall j => ⟨h.low j, fun hj => by
    by_cases hlt : j < m
    · exact hall j hlt
    · exact h.mws j (by omega) hj⟩
  induction fuel with
  | zero =>
    intro q listed g a w hq hl h
    have hall : ∀ i, i < ops.size → listed.getD i false = true := by
      intro j hj
      cases e' : listed.getD j false with
      | true => rfl
      | false =>
        have hjj := getD_ft (by rw [h.size]; exact hj) e'
        have := List.length_pos_of_mem (a := j) (l := (List.range ops.size).filter fun i => !listed.getD i true) (by simp only [List.mem_filter, List.mem_range, Bool.not_eq_true']; exact ⟨hj, hjj⟩)
        unfold left at hl; omega
    have hqe : q = e := by
      by_cases h1 : q = e
      · exact h1
      · have h2 := ho.le'
        have := h.low (m + q) (hall _ (by omega)); omega
    subst hqe
    have hall' : ∀ i, i < m → listed.getD i false = true := fun i hi => hall i (Nat.lt_of_lt_of_le hi ho.le)
    exact any_tail hc ho hK 0 (m + q) listed _ g a w (Nat.le_refl _) hl h.size (hdone h hall') ho.le' (h.done ho ht hmw (Nat.le_refl _) hall') hw
  | succ fuel ih =>
    intro q listed g a w hq hl h
    by_cases hall : (∀ i, i < m → listed.getD i false = true) ∧ q = e
    · obtain ⟨hall, rfl⟩ := hall
      exact any_tail hc ho hK (fuel + 1) (m + q) listed _ g a w (Nat.le_refl _) hl h.size (hdone h hall) ho.le' (h.done ho ht hmw (Nat.le_refl _) hall) hw
    · refine ⟨fun e' => ?_, fun i hi => ?_⟩
      · rcases all_or_ready ho h.size with h1 | h1
        · refine absurd ⟨fun i hi => h1 i (Nat.lt_of_lt_of_le hi ho.le), ?_⟩ hall
          by_cases h2 : q = e
          · exact h2
          · have h3 := ho.le'
            have := h.low (m + q) (h1 _ (by omega)); omega
        · exact absurd e' h1
      · obtain ⟨h1, h2, o, hoi⟩ := ready_iff hi
        by_cases him : i < m
        · exact h.step ho ht hmw hq hi him (fun g' a' w' h' => ih q _ g' a' w' hq (by have := left_set h.size h1 h2; omega) h')
        · by_cases him2 : i < m + e
          · have hiq : i = m + q := by
              have h3 : ¬ i < m + q := fun hlt => by have := getD_tf h2; rw [h.mws i (by omega) hlt] at this; cases this
              by_cases hgt : m + q < i
              · have := h.low (m + q) (binds_ready hi hoi (ho.mprev i o (m + q) (by omega) him2 hoi (by omega) hgt)); omega
              · omega
            subst hiq
            exact h.early hc ho ht hmw (by omega) hi (fun g' a' w' h' => ih (q + 1) _ g' a' w' (by omega) (by have := left_set h.size h1 h2; omega) h')
          · exfalso
            refine hall ⟨fun j hj => binds_ready hi hoi (ho.wr i j o (by omega) hoi (by omega)), ?_⟩
            by_cases h3 : q = e
            · exact h3
            · have := h.low (m + q) (binds_ready hi hoi (ho.wr i (m + q) o (by omega) hoi (by omega))); omega

/-- The writes into maps that stand first among those that write. -/
theorem mw_of {ops : Array Oper} {m : Nat} : ∀ (e : Nat) (st : St) (K : St → Prop), (∀ i o, m ≤ i → i < m + e → ops[i]? = some o → isMW o.op = true ∧ o.guard = none) → m + e ≤ ops.size → aops c P ops (ops.toList.drop m) st K →
    ∃ hk : Nat → List HObj, MW c ops m e st hk ∧ aops c P ops (ops.toList.drop (m + e)) ⟨st.σ, hk e⟩ K := by
  intro e
  induction e with
  | zero => intro st K _ _ h; exact ⟨fun _ => st.h, ⟨rfl, fun q o hq => by omega⟩, h⟩
  | succ e ih =>
    intro st K hm hle h
    obtain ⟨hk, h1, h2⟩ := ih st K (fun i o a b => hm i o a (by omega)) (by omega) h
    have hlt : m + e < ops.size := by omega
    have ho := Array.getElem?_eq_getElem (xs := ops) (i := m + e) hlt
    obtain ⟨k1, k2⟩ := hm (m + e) _ (by omega) (by omega) ho
    rw [List.drop_eq_getElem_cons (by simpa using hlt)] at h2
    have hoo : ops.toList[m + e] = ops[m + e] := by simp
    rw [hoo] at h2
    unfold aops at h2
    have hwr : isWr ops[m + e].op = true := by
      unfold isMW at k1
      split at k1
      · rename_i e'; rw [e']; rfl
      · rename_i e'; rw [e']; rfl
      · cases k1
    rw [hwr, cond_true, k2] at h2
    dsimp only at h2
    have hput : ∃ h', mput c.T c.Q (hk e) (ev st.σ) ops[m + e].op = some h' ∧ aops c P ops (ops.toList.drop (m + e + 1)) ⟨st.σ, h'⟩ K := by
      unfold isMW at k1
      split at k1
      · rename_i e'
        rw [e']
        unfold awr at h2
        rw [e'] at h2
        dsimp only at h2
        split at h2
        · rename_i h' hp; exact ⟨h', hp, h2⟩
        · cases h2
      · rename_i e'
        rw [e']
        unfold awr at h2
        rw [e'] at h2
        dsimp only at h2
        split at h2
        · rename_i h' hp; exact ⟨h', hp, h2⟩
        · cases h2
      · cases k1
    obtain ⟨h', hp, h3⟩ := hput
    refine ⟨fun q => if q = e + 1 then h' else hk q, ⟨by simp [h1.zero], fun q o hq hoq => ?_⟩, ?_⟩
    · by_cases e' : q = e
      · subst e'
        rw [ho] at hoq; cases hoq
        simp only [if_true, if_neg (show ¬ q = q + 1 by omega)]
        exact hp
      · rw [if_neg (by omega), if_neg (by omega)]
        exact h1.at_ q o (by omega) hoq
    · simpa [Nat.add_assoc] using h3

/-- A REGION THAT DRAWS. -/
theorem aops_any {rd : Option Nat} (hc : c.OK P) (hord : okOrder ops m = true) {E : Ctx} {st : St} {g : G} {a : Act} {w : World} {K : St → Prop} {Q : Exit → Act → World → Prop} (hr : Rel E st g a w) (h : aops c P ops ops.toList st K)
    (hK : ∀ st' g' a' w', K st' → Rel E st' g' a' w' → Q .normal a' w') : wpAnyIn (FR rd) 0 P .any ops Q ops.size (Array.replicate ops.size false) a w := by
  obtain ⟨e, ho⟩ := okOrder_spec hord
  have hsplit : ops.toList = ops.toList.take m ++ ops.toList.drop m := (List.take_append_drop _ _).symm
  have h' : aops c P ops (ops.toList.take m ++ ops.toList.drop m) st K := by rw [← hsplit]; exact h
  obtain ⟨rs, st', hrun, hw⟩ := aops_run hc (fun o hmem => by
    obtain ⟨i, hi, rfl⟩ := List.getElem_of_mem hmem
    have him : i < m := by simp at hi; omega
    refine ho.pure i _ him ?_
    rw [List.getElem_take, ← Array.getElem?_toList]
    exact List.getElem?_eq_getElem _) h'
  obtain ⟨sts, r, no, h1, h2, h3⟩ := hrun.trace
  have hlen : (ops.toList.take m).length = m := by rw [List.length_take, Array.length_toList, Nat.min_eq_left ho.le]
  rw [hlen] at h2
  have ht : Tr P ops m sts r no := ⟨fun i o hi hoi => h3 i o (by rw [List.getElem?_take_of_lt hi]; simpa using hoi)⟩
  rw [← h2] at hw
  have hnl : ∀ i, (Array.replicate ops.size false).getD i false = false := by
    intro i; rw [Array.getD_eq_getD_getElem?, Array.getElem?_replicate]; split <;> rfl
  obtain ⟨hk, hmw, hw'⟩ := mw_of e _ K ho.mw ho.le' hw
  refine any_all hc ho ht hmw hK hw' _ 0 _ g a w (Nat.zero_le _) ?_ ⟨by simp, fun i hi => (by rw [hnl] at hi; cases hi), fun i h1 h2 => (by omega), fun i o k hi => (by rw [hnl] at hi; cases hi), ?_, by rw [h1]; exact hr.sl.size, by rw [h1]; exact hr.df, fun k o t hk => (by rw [hnl] at hk; cases hk),
    fun t _ => (by rw [h1]; exact hr.sl.looks t), fun i ob hi _ hob => ?_⟩
  · unfold left
    exact Nat.le_trans (List.length_filter_le _ _) (by simp)
  · rw [hmw.zero]; exact ht.more ho.le (by rw [h1]; exact hr.wd) m (Nat.le_refl _)
  · refine ⟨hr.wd.none_of_le _ ?_, ?_⟩
    · have := (ht.pfx ho.le (Nat.zero_le i) (by omega)).length_le
      rw [h1] at this; exact this
    · rw [hmw.zero]; exact ht.obj ho.le hi hob

end
end Go.Jo
