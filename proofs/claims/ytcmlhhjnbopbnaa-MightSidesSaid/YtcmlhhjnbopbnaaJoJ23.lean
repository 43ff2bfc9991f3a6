/- A region run at once, what is owed alone is asked. Over any program. -/
import Derived.Test.YtcmlhhjnbopbnaaJoJ22
namespace Go.Jo
open Go.RowKit
set_option autoImplicit false

structure XS where
  st : St
  γ : List (Nat × List (Nat × Bool))
  wr : List Nat

def lk : List (Nat × List (Nat × Bool)) → Nat → Option (List (Nat × Bool))
  | [], _ => none
  | (t, L) :: r, s => bif t == s then some L else lk r s

/-- Under which tests a slot was filled. -/
def XS.gl (X : XS) (s : Nat) : Option (List (Nat × Bool)) :=
  match lk X.γ s with
  | some L => some L
  | none => match X.st.σ.getD s .junk with | .opt _ _ => none | _ => some []

def subL (A B : List (Nat × Bool)) : Bool := A.all fun x => B.contains x

def XS.okO (X : XS) (L : List (Nat × Bool)) : Operand → Bool
  | .tmp s => match X.gl s with | some A => subL A L | none => false
  | _ => true

def bvS (σ : List AV) (s : Nat) : Option Bool := match (σ.getD s .junk).st with | .d (.v (.bool b)) => some b | _ => none

def AllL (σ : List AV) : List (Nat × Bool) → Prop
  | [] => True
  | x :: l => bvS σ x.1 = some x.2 ∧ AllL σ l

def impL (σ : List AV) (p : Prop) : List (Nat × Bool) → Prop
  | [] => p
  | x :: l => match bvS σ x.1 with | some b => (b = x.2 → impL σ p l) | none => True

theorem impL_ok {σ : List AV} {p : Prop} : ∀ {L : List (Nat × Bool)}, impL σ p L → AllL σ L → p
  | [], h, _ => h
  | x :: l, h, k => by
    unfold impL at h
    rw [k.1] at h
    exact impL_ok (h rfl) k.2

theorem AllL_mem {σ : List AV} : ∀ {L : List (Nat × Bool)}, AllL σ L ↔ ∀ x ∈ L, bvS σ x.1 = some x.2
  | [] => by simp [AllL]
  | x :: l => by simp [AllL, AllL_mem (L := l)]

theorem AllL_sub {σ : List AV} {A B : List (Nat × Bool)} (h : subL A B = true) (k : AllL σ B) : AllL σ A := by
  rw [AllL_mem] at *
  intro x hx
  have := (List.all_eq_true.1 h) x hx
  exact k x (by simpa using this)

structure XS.Inv (X : XS) : Prop where
  at_ : ∀ s L, lk X.γ s = some L → ∃ c x, X.st.σ.getD s .junk = .opt c x ∧ (c = true → AllL X.st.σ L) ∧ (AllL X.st.σ L → c = true)
  wr : ∀ s L, lk X.γ s = some L → s ∈ X.wr ∧ ∀ y ∈ L, y.1 ∈ X.wr

theorem lk_none {γ : List (Nat × List (Nat × Bool))} {s : Nat} : lk [] s = none := rfl

theorem XS.okO_q {X : XS} (hi : X.Inv) {L : List (Nat × Bool)} {x : Operand} (h : X.okO L x = true) (k : AllL X.st.σ L) : (ev X.st.σ x).q = true := by
  cases x with
  | tmp s =>
    simp only [XS.okO] at h
    split at h
    · rename_i A hA
      simp only [XS.gl] at hA
      show (X.st.σ.getD s .junk).q = true
      split at hA
      · rename_i L' hl
        cases hA
        obtain ⟨c, y, h1, h2, h3⟩ := hi.at_ s _ hl
        rw [h1]
        exact h3 (AllL_sub h k)
      · split at hA
        · cases hA
        · rename_i hno
          generalize X.st.σ.getD s .junk = y at hno
          cases y <;> first | rfl | exact absurd rfl (hno _ _)
    · cases h
  | const v => cases v <;> rfl
  | _ => rfl

def putX (X : XS) (dst : Option Tmp) (st' : St) (g : Option (List (Nat × Bool))) : Option XS :=
  match dst with
  | none => some ⟨st', X.γ, X.wr⟩
  | some d => bif X.wr.contains d then none else some ⟨st', match g with | none => X.γ | some L => (d, L) :: X.γ, d :: X.wr⟩

def obl (ow : Ow) (p : Prop) : Option (List Prop) :=
  match ow with
  | .no => some []
  | .chk b => bif b then some [] else none
  | .all => some [p]

theorem obl_ok {ow : Ow} {p : Prop} {ps : List Prop} {f : Prop → Prop} {G : Prop} (hf : ∀ p, f p → G → p) (h : obl ow p = some ps) (ho : ow.ok p) (ha : AllP (ps.map f)) : G → p := by
  intro hG
  unfold obl at h
  split at h
  · exact ho
  · rename_i b
    cases b with
    | true => exact ho rfl
    | false => cases h
  · cases h; exact hf _ ha.1 hG

/-- An operation that writes nothing, by its yield. -/
def xpure (c : Cfg) (P : Program) (st : St) (op : Op) (e : Operand → AV) (dst : Option Tmp) (rs : List D) (wrap : AV → AV) (imp : Prop → Prop) : Option (List Prop × List D × St) :=
  match pop c.T c.Q c.O st.h e op with
  | .bad => none
  | .val p r =>
    match obl (owes c.T st.h e op) p with
    | some ps => some (ps.map imp, rs, ⟨putS st.σ dst (wrap r), st.h⟩)
    | none => none
  | .box _ cs t => some ([], rs, ⟨putS st.σ dst (wrap (.bp st.h.length 0)), st.h ++ [.box true cs t]⟩)
  | .row p k n f t => some ([imp p], rs, ⟨putS st.σ dst (wrap (.ow st.h.length n k)), st.h ++ [.row k n f t]⟩)
  | .lit p k n f _ => some ([imp p], rs, ⟨putS st.σ dst (wrap (.d (.sl k n f))), st.h⟩)
  | .call f args =>
    match rs with
    | r :: rs' => some ([imp (ACall P f args r)], rs', ⟨putS st.σ dst (wrap (.d r)), st.h⟩)
    | [] => none
  | .mk _ _ _ _ _ => none
  | .ent _ _ _ _ _ => none

/-- A new map; an entry of a map. -/
def xmap (c : Cfg) (st : St) (op : Op) (dst : Option Tmp) : Option (List Prop × St) :=
  match pop c.T c.Q c.O st.h (ev st.σ) op with
  | .mk z zc za zs ag => some ([], ⟨putS st.σ dst (.mv st.h.length), st.h ++ [.mp zc za (fun _ => z) (fun _ => false) [] zs ag]⟩)
  | .ent p d b k _ => some ([p], ⟨putS st.σ dst (.tu [.d d, .sm st.h.length]), st.h ++ [.en b k]⟩)
  | _ => none

section
variable {P : Program} {c : Cfg}

theorem xpure0 {st st' : St} {op : Op} {dst : Option Tmp} {rs rs' : List D} {ps : List Prop} (h : xpure c P st op (ev st.σ) dst rs id id = some (ps, rs', st')) (hp : AllP ps) {K : St → Prop} (hK : K st') :
    fin0 P dst st (pop c.T c.Q c.O st.h (ev st.σ) op) K := by
  unfold xpure at h
  unfold fin0
  have he : ∀ v, ev st.σ (.const v) = cav v := fun v => rfl
  split at h
  · cases h
  · rename_i p r ho
    have hok := owes_ok he ho
    rw [ho]; dsimp only
    split at h
    · rename_i qs hq
      cases h
      exact ⟨obl_ok (f := id) (G := True) (fun _ h _ => h) hq hok hp trivial, hK⟩
    · cases h
  · rename_i p cs t ho
    rw [ho]; dsimp only
    cases h
    exact ⟨pop_box ho, hK⟩
  · rename_i ho; rw [ho]; dsimp only; cases h; exact ⟨hp.1, hK⟩
  · rename_i ho; rw [ho]; dsimp only; cases h; exact ⟨hp.1, hK⟩
  · rename_i f args ho
    rw [ho]; dsimp only
    split at h
    · cases h; exact ⟨_, hp.1, hK⟩
    · cases h
  · cases h
  · cases h

theorem xmap0 (hc : c.OK P) {st st' : St} {op : Op} {dst : Option Tmp} {ps : List Prop} (h : xmap c st op dst = some (ps, st')) (hp : AllP ps) {K : St → Prop} (hK : K st') :
    fin0 P dst st (pop c.T c.Q c.O st.h (ev st.σ) op) K := by
  unfold xmap at h
  unfold fin0
  split at h
  · rename_i ho; rw [ho]; dsimp only; cases h; exact ⟨fun H => pop_mk hc.T ho H, hK⟩
  · rename_i ho; rw [ho]; dsimp only; cases h; exact ⟨hp.1, hK⟩
  · cases h

theorem xpureG {st st' : St} {op : Op} {dst : Option Tmp} {rs rs' : List D} {ps : List Prop} {g : Bool} {L : List (Nat × Bool)} (hL : g = true → AllL st.σ L)
    (h : xpure c P st op (evs st.σ) dst rs (.opt g) (fun p => impL st.σ p L) = some (ps, rs', st')) (hp : AllP ps) {K : St → Prop} (hK : K st') :
    finG P g dst st (pop c.T c.Q c.O st.h (evs st.σ) op) K := by
  unfold xpure at h
  unfold finG
  have he : ∀ v, evs st.σ (.const v) = cav v := fun v => by cases v <;> rfl
  split at h
  · cases h
  · rename_i p r ho
    have hok := owes_ok he ho
    rw [ho]; dsimp only
    split at h
    · rename_i qs hq
      cases h
      exact ⟨fun hg => obl_ok (f := fun p => impL st.σ p L) (G := AllL st.σ L) (fun _ h k => impL_ok h k) hq hok hp (hL hg), hK⟩
    · cases h
  · rename_i p cs t ho
    rw [ho]; dsimp only
    cases h
    exact ⟨fun _ => pop_box ho, hK⟩
  · rename_i ho; rw [ho]; dsimp only; cases h; exact ⟨fun hg => impL_ok hp.1 (hL hg), hK⟩
  · rename_i ho; rw [ho]; dsimp only; cases h; exact ⟨fun hg => impL_ok hp.1 (hL hg), hK⟩
  · rename_i f args ho
    rw [ho]; dsimp only
    split at h
    · cases h; exact ⟨_, fun hg => impL_ok hp.1 (hL hg), hK⟩
    · cases h
  · cases h
  · cases h
end

def xstore (c : Cfg) (t : Nat) (av xv : AV) (st : St) : Option (List Prop × St) :=
  match c.T t with
  | some ti =>
    match xv.cells with
    | some xs =>
      match av with
      | .bp b off =>
        match st.h[b]? with
        | some (.box true cs bt) => bif xs.all AV.one && xs.length == ti.size && decide (off + xs.length ≤ cs.length) then some ([], ⟨st.σ, st.h.set b (.box true (wr cs off xs) bt)⟩) else none
        | _ => none
      | .ep b k i off =>
        match st.h[b]?, allD xs with
        | some (.row k' n f bt), some ds => bif k == k' && ds.all D.one && ds.length == ti.size && decide (off + ds.length ≤ k) then some ([i < n], ⟨st.σ, st.h.set b (.row k n (fun j => if j = i then dwr (f j) off ds else f j) bt)⟩) else none
        | _, _ => none
      | _ => none
    | none => none
  | none => none

def xappend (c : Cfg) (t : Nat) (sv xv : AV) (dst : Option Tmp) (st : St) : Option (List Prop × St) :=
  match c.T t with
  | some ti =>
    match ti.tk with
    | .slice e =>
      match c.T e with
      | some te =>
        match asrc st.h xv with
        | some (k, m, fx) =>
          match sv with
          | .d (.v (.slice none 0 0)) => bif te.size == k && k != 0 && te.zero.length == k then some ([m ≤ maxLen, m * te.bytes ≤ 140737488355328], ⟨putS st.σ dst (.ow st.h.length m k), st.h ++ [.row k m fx e]⟩) else none
          | .ow b n ks =>
            match st.h[b]? with
            | some (.row kr nr f bt) => bif te.size == k && k != 0 && te.zero.length == k && ks == k && kr == k && bt == e then some ([nr = n, n + m ≤ maxLen, (n + m) * te.bytes ≤ 140737488355328],
                ⟨putS (st.σ.map (AV.kill b)) dst (.ow b (n + m) k), (st.h.map (HObj.kill b)).set b (.row k (n + m) (fun j => if j < n then f j else fx (j - n)) e)⟩) else none
            | _ => none
          | _ => none
        | none => none
      | none => none
    | _ => none
  | none => none

def xstep (c : Cfg) (P : Program) (ops : Array Oper) (o : Oper) (rs : List D) (X : XS) : Option (List Prop × List D × XS) :=
  match o.guard with
  | none =>
    match o.op with
    | .store t x y =>
      match xstore c t (ev X.st.σ x) (ev X.st.σ y) X.st with
      | some (ps, st') => some (ps, rs, ⟨st', [], X.wr⟩)
      | none => none
    | .call { callee := .builtin .append, args := xs, argTypes := ts } =>
      match xs.toList, ts.toList with
      | [s, x], [t, t'] =>
        bif t == t' then
          match xappend c t (ev X.st.σ s) (ev X.st.σ x) o.dst X.st with
          | some (ps, st') => some (ps, rs, ⟨st', [], o.dst.toList ++ X.wr⟩)
          | none => none
        else none
      | _, _ => none
    | .pick (.tmp s) a b =>
      bif X.okO [] (.tmp s) && X.okO [(s, true)] a && X.okO [(s, false)] b then
        match apick (ev X.st.σ (.tmp s)) (ev X.st.σ a) (ev X.st.σ b) with
        | .val _ r => (putX X o.dst ⟨putS X.st.σ o.dst r, X.st.h⟩ none).map fun Y => ([], rs, Y)
        | _ => none
      else none
    | .pick _ _ _ => none
    | .mapUpdate t m k x =>
      match mput c.T c.Q X.st.h (ev X.st.σ) (.mapUpdate t m k x) with
      | some h' => some ([], rs, ⟨⟨X.st.σ, h'⟩, [], X.wr⟩)
      | none => none
    | .entryStore t m s x =>
      match mput c.T c.Q X.st.h (ev X.st.σ) (.entryStore t m s x) with
      | some h' => some ([], rs, ⟨⟨X.st.σ, h'⟩, [], X.wr⟩)
      | none => none
    | .makeMap t r =>
      match xmap c X.st (.makeMap t r) o.dst with
      | some (ps, st') => (putX X o.dst st' none).map fun Y => (ps, rs, Y)
      | none => none
    | .mapEntry t m k =>
      match xmap c X.st (.mapEntry t m k) o.dst with
      | some (ps, st') => (putX X o.dst st' none).map fun Y => (ps, rs, Y)
      | none => none
    | op =>
      match xpure c P X.st op (ev X.st.σ) o.dst rs id id with
      | some (ps, rs', st') => (putX X o.dst st' none).map fun Y => (ps, rs', Y)
      | none => none
  | some (j, want) =>
    bif isWr o.op then none else
    match (ops[j]?).bind (·.dst) with
    | some d =>
        match X.gl d, gof X.st.σ ops j want with
        | some A, some g =>
          match o.op with
          | .pick (.tmp s) a b =>
            bif X.okO ((d, want) :: A) (.tmp s) && X.okO ((s, true) :: (d, want) :: A) a && X.okO ((s, false) :: (d, want) :: A) b then
              match apick (ev X.st.σ (.tmp s)).st (ev X.st.σ a) (ev X.st.σ b) with
              | .val _ r => (putX ⟨X.st, X.γ, d :: X.wr⟩ o.dst ⟨putS X.st.σ o.dst (.opt g r), X.st.h⟩ (some ((d, want) :: A))).map fun Y => ([], rs, Y)
              | _ => none
            else none
          | .pick _ _ _ => none
          | op =>
            bif op.operands.toList.all (X.okO ((d, want) :: A)) then
              match xpure c P X.st op (evs X.st.σ) o.dst rs (.opt g) (fun p => impL X.st.σ p ((d, want) :: A)) with
              | some (ps, rs', st') => (putX ⟨X.st, X.γ, d :: X.wr⟩ o.dst st' (some ((d, want) :: A))).map fun Y => (ps, rs', Y)
              | none => none
            else none
        | _, _ => none
    | none => none

def xrun (c : Cfg) (P : Program) (ops : Array Oper) : List Oper → List D → XS → Option (List Prop × List D × XS)
  | [], rs, X => some ([], rs, X)
  | o :: rest, rs, X =>
    match xstep c P ops o rs X with
    | some (ps, rs', X') =>
      match xrun c P ops rest rs' X' with
      | some (qs, rs'', X'') => some (ps ++ qs, rs'', X'')
      | none => none
    | none => none

section
variable {P : Program} {c : Cfg}

theorem bvS_set {σ : List AV} {d s : Nat} {x : AV} (h : s ≠ d) : bvS (σ.set d x) s = bvS σ s := by
  unfold bvS
  rw [show (σ.set d x).getD s .junk = σ.getD s .junk by simp [List.getD_eq_getElem?_getD, List.getElem?_set, Ne.symm h]]

theorem AllL_set {σ : List AV} {d : Nat} {x : AV} {L : List (Nat × Bool)} (h : ∀ y ∈ L, y.1 ≠ d) : AllL (σ.set d x) L ↔ AllL σ L := by
  rw [AllL_mem, AllL_mem]
  constructor
  · intro k y hy; rw [← bvS_set (h y hy)]; exact k y hy
  · intro k y hy; rw [bvS_set (h y hy)]; exact k y hy

theorem getD_set_ne {σ : List AV} {d s : Nat} {x : AV} (h : s ≠ d) : (σ.set d x).getD s .junk = σ.getD s .junk := by
  simp [List.getD_eq_getElem?_getD, List.getElem?_set, Ne.symm h]

/-- A slot is filled. -/
theorem putX_inv {X Y : XS} (hi : X.Inv) {dst : Option Tmp} {r : AV} {h' : List HObj} (hY : putX X dst ⟨putS X.st.σ dst r, h'⟩ none = some Y) : Y.Inv ∧ Y.st = ⟨putS X.st.σ dst r, h'⟩ := by
  unfold putX at hY
  cases dst with
  | none => cases hY; exact ⟨⟨hi.at_, hi.wr⟩, rfl⟩
  | some d =>
    simp only at hY
    cases hw : X.wr.contains d with
    | true => rw [hw] at hY; cases hY
    | false =>
      rw [hw] at hY
      cases hY
      have hd : d ∉ X.wr := fun hd => by rw [List.contains_iff_mem.2 hd] at hw; cases hw
      refine ⟨⟨fun s L hl => ?_, fun s L hl => ?_⟩, rfl⟩
      · obtain ⟨c, x, h1, h2, h3⟩ := hi.at_ s L hl
        obtain ⟨w1, w2⟩ := hi.wr s L hl
        have hs : s ≠ d := fun e => hd (e ▸ w1)
        have hL : ∀ y ∈ L, y.1 ≠ d := fun y hy e => hd (e ▸ w2 y hy)
        refine ⟨c, x, ?_, fun hc => (AllL_set hL).2 (h2 hc), fun k => h3 ((AllL_set hL).1 k)⟩
        show (X.st.σ.set d r).getD s .junk = _
        rw [getD_set_ne hs]; exact h1
      · obtain ⟨w1, w2⟩ := hi.wr s L hl
        exact ⟨List.mem_cons_of_mem _ w1, fun y hy => List.mem_cons_of_mem _ (w2 y hy)⟩

theorem putX_invG {X Y : XS} (hi : X.Inv) {dst : Option Tmp} {g : Bool} {r : AV} {h' : List HObj} {L : List (Nat × Bool)} (hg1 : g = true → AllL X.st.σ L) (hg2 : AllL X.st.σ L → g = true) (hLw : ∀ y ∈ L, y.1 ∈ X.wr)
    (hlen : ∀ d, dst = some d → d < X.st.σ.length)
    (hY : putX X dst ⟨putS X.st.σ dst (.opt g r), h'⟩ (some L) = some Y) : Y.Inv ∧ Y.st = ⟨putS X.st.σ dst (.opt g r), h'⟩ := by
  unfold putX at hY
  cases dst with
  | none => cases hY; exact ⟨⟨hi.at_, hi.wr⟩, rfl⟩
  | some d =>
    simp only at hY
    cases hw : X.wr.contains d with
    | true => rw [hw] at hY; cases hY
    | false =>
      rw [hw] at hY
      cases hY
      have hd : d ∉ X.wr := fun hd => by rw [List.contains_iff_mem.2 hd] at hw; cases hw
      have hset : ∀ {L : List (Nat × Bool)}, (∀ y ∈ L, y.1 ∈ X.wr) → ∀ y ∈ L, y.1 ≠ d := fun hL y hy e => hd (e ▸ hL y hy)
      refine ⟨⟨fun s L' hl => ?_, fun s L' hl => ?_⟩, rfl⟩
      · simp only [lk] at hl
        by_cases e : d = s
        · subst e
          simp only [beq_self_eq_true, cond_true, Option.some.injEq] at hl
          subst hl
          refine ⟨g, r, ?_, fun hc => (AllL_set (hset hLw)).2 (hg1 hc), fun k => hg2 ((AllL_set (hset hLw)).1 k)⟩
          show (X.st.σ.set d _).getD d .junk = _
          simp [List.getD_eq_getElem?_getD, hlen d rfl]
        · rw [show (d == s) = false by simpa using e, cond_false] at hl
          obtain ⟨c, x, h1, h2, h3⟩ := hi.at_ s L' hl
          obtain ⟨w1, w2⟩ := hi.wr s L' hl
          refine ⟨c, x, ?_, fun hc => (AllL_set (hset w2)).2 (h2 hc), fun k => h3 ((AllL_set (hset w2)).1 k)⟩
          show (X.st.σ.set d _).getD s .junk = _
          rw [getD_set_ne (Ne.symm e)]; exact h1
      · simp only [lk] at hl
        by_cases e : d = s
        · subst e
          simp only [beq_self_eq_true, cond_true, Option.some.injEq] at hl
          subst hl
          exact ⟨List.mem_cons_self, fun y hy => List.mem_cons_of_mem _ (hLw y hy)⟩
        · rw [show (d == s) = false by simpa using e, cond_false] at hl
          obtain ⟨w1, w2⟩ := hi.wr s L' hl
          exact ⟨List.mem_cons_of_mem _ w1, fun y hy => List.mem_cons_of_mem _ (w2 y hy)⟩

theorem xpure_st {st st' : St} {op : Op} {e : Operand → AV} {dst : Option Tmp} {rs rs' : List D} {wrap : AV → AV} {imp : Prop → Prop} {ps : List Prop} (h : xpure c P st op e dst rs wrap imp = some (ps, rs', st')) :
    ∃ r h', st' = ⟨putS st.σ dst (wrap r), h'⟩ := by
  unfold xpure at h
  split at h
  · cases h
  · split at h
    · cases h; exact ⟨_, _, rfl⟩
    · cases h
  · cases h; exact ⟨_, _, rfl⟩
  · cases h; exact ⟨_, _, rfl⟩
  · cases h; exact ⟨_, _, rfl⟩
  · split at h
    · cases h; exact ⟨_, _, rfl⟩
    · cases h
  · cases h
  · cases h

theorem xmap_st {st st' : St} {op : Op} {dst : Option Tmp} {ps : List Prop} (h : xmap c st op dst = some (ps, st')) : ∃ r h', st' = ⟨putS st.σ dst r, h'⟩ := by
  unfold xmap at h
  split at h
  · cases h; exact ⟨_, _, rfl⟩
  · cases h; exact ⟨_, _, rfl⟩
  · cases h

theorem gof_len {X : XS} {ops : Array Oper} {j : Nat} {want g : Bool} {d : Tmp} {A : List (Nat × Bool)} (hi : X.Inv) (hd : (ops[j]?).bind (·.dst) = some d) (hA : X.gl d = some A) (hg : gof X.st.σ ops j want = some g) :
    (g = true → AllL X.st.σ ((d, want) :: A)) ∧ (AllL X.st.σ ((d, want) :: A) → g = true) ∧ (∀ y ∈ (d, want) :: A, y.1 ∈ d :: X.wr) := by
  have key : (∀ y ∈ (d, want) :: A, y.1 ∈ d :: X.wr) := by
    intro y hy
    rcases List.mem_cons.1 hy with rfl | hy
    · exact List.mem_cons_self
    · simp only [XS.gl] at hA
      split at hA
      · rename_i L hl; cases hA; exact List.mem_cons_of_mem _ ((hi.wr d _ hl).2 y hy)
      · split at hA
        · cases hA
        · cases hA; cases hy
  unfold gof at hg
  rw [hd] at hg
  dsimp only at hg
  split at hg
  · rename_i b hb
    cases hg
    simp only [XS.gl] at hA
    have hbv : bvS X.st.σ d = some b := by unfold bvS; rw [hb]; rfl
    split at hA
    · rename_i L hl
      obtain ⟨c', x, h1, _⟩ := hi.at_ d L hl
      rw [hb] at h1; cases h1
    · rw [hb] at hA
      cases hA
      refine ⟨fun h => ⟨?_, trivial⟩, fun h => ?_, key⟩
      · dsimp only; rw [hbv]; cases want <;> simp_all
      · have := h.1; dsimp only at this; rw [hbv] at this; cases this; cases want <;> rfl
  · rename_i q b hb
    cases hg
    simp only [XS.gl] at hA
    have hbv : bvS X.st.σ d = some b := by unfold bvS; rw [hb]; rfl
    split at hA
    · rename_i L hl
      cases hA
      obtain ⟨c', x, h1, h2, h3⟩ := hi.at_ d A hl
      rw [hb] at h1; cases h1
      refine ⟨fun h => ⟨?_, h2 ?_⟩, fun h => ?_, key⟩
      · dsimp only; rw [hbv]; cases want <;> simp_all
      · simp only [Bool.and_eq_true] at h; exact h.1
      · have := h.1; dsimp only at this; rw [hbv] at this; cases this; rw [h3 h.2]; cases want <;> rfl
    · rw [hb] at hA; cases hA
  · cases hg

theorem qs_all {X : XS} (hi : X.Inv) {L : List (Nat × Bool)} {l : List Operand} (h : l.all (X.okO L) = true) (k : AllL X.st.σ L) : qs X.st.σ l = true := by
  unfold qs
  rw [List.all_eq_true] at *
  exact fun x hx => X.okO_q hi (h x hx) k

theorem xstore_sound {t : Nat} {av xv : AV} {st st' : St} {ps : List Prop} (h : xstore c t av xv st = some (ps, st')) (hp : AllP ps) : st'.σ = st.σ ∧ ∃ ti, c.T t = some ti ∧ ∀ K : St → Prop, K st' → astore ti av xv st K := by
  unfold xstore at h
  split at h
  · rename_i ti hti
    split at h
    · rename_i xs hxs
      split at h
      · rename_i b off
        split at h
        · rename_i cs bt hob
          cases hb : (xs.all AV.one && xs.length == ti.size && decide (off + xs.length ≤ cs.length)) with
          | false => rw [hb] at h; cases h
          | true =>
            rw [hb] at h
            cases h
            simp only [Bool.and_eq_true, beq_iff_eq, decide_eq_true_eq] at hb
            refine ⟨rfl, ti, hti, fun K hK => ?_⟩
            unfold astore
            rw [hxs]; dsimp only
            rw [hob]
            exact ⟨⟨hb.1.1, hb.1.2, hb.2⟩, hK⟩
        · cases h
      · rename_i b k i off
        split at h
        · rename_i k' n f bt ds hob hds
          cases hb : (k == k' && ds.all D.one && ds.length == ti.size && decide (off + ds.length ≤ k)) with
          | false => rw [hb] at h; cases h
          | true =>
            rw [hb] at h
            cases h
            simp only [Bool.and_eq_true, beq_iff_eq, decide_eq_true_eq] at hb
            refine ⟨rfl, ti, hti, fun K hK => ?_⟩
            unfold astore
            rw [hxs]; dsimp only
            rw [hob, hds]
            exact ⟨⟨hb.1.1.1, hb.1.1.2, hb.1.2, hp.1, hb.2⟩, hK⟩
        · cases h
      · cases h
    · cases h
  · cases h

theorem xappend_sound {t : Nat} {sv xv : AV} {dst : Option Tmp} {st st' : St} {ps : List Prop} (h : xappend c t sv xv dst st = some (ps, st')) (hp : AllP ps) :
    st'.σ.length = st.σ.length ∧ ∃ ti e te, c.T t = some ti ∧ ti.tk = .slice e ∧ c.T e = some te ∧ ∀ K : St → Prop, K st' → aappend te e sv xv dst st K := by
  unfold xappend at h
  split at h
  · rename_i ti hti
    split at h
    · rename_i e htk
      split at h
      · rename_i te hte
        split at h
        · rename_i k m fx hsrc
          split at h
          · cases hb : (te.size == k && k != 0 && te.zero.length == k) with
            | false => rw [hb] at h; cases h
            | true =>
              rw [hb] at h
              cases h
              simp only [Bool.and_eq_true, beq_iff_eq, bne_iff_ne] at hb
              refine ⟨by simp [putS_length], ti, e, te, hti, htk, hte, fun K hK => ?_⟩
              unfold aappend
              rw [hsrc]
              exact ⟨⟨hb.1.1, hb.1.2, hb.2, hp.1, hp.2.1⟩, hK⟩
          · rename_i b n ks
            split at h
            · rename_i kr nr f bt hob
              cases hb : (te.size == k && k != 0 && te.zero.length == k && ks == k && kr == k && bt == e) with
              | false => rw [hb] at h; cases h
              | true =>
                rw [hb] at h
                cases h
                simp only [Bool.and_eq_true, beq_iff_eq, bne_iff_ne] at hb
                refine ⟨by simp [putS_length], ti, e, te, hti, htk, hte, fun K hK => ?_⟩
                unfold aappend
                rw [hsrc]; dsimp only
                rw [hob]
                exact ⟨⟨hb.1.1.1.1.1, hb.1.1.1.1.2, hb.1.1.1.2, hb.1.1.2, hb.1.2, hp.1, hb.2, hp.2.1, hp.2.2.1⟩, hK⟩
            · cases h
          · cases h
        · cases h
      · cases h
    · cases h
  · cases h

theorem okO_pick {X : XS} (hi : X.Inv) {L : List (Nat × Bool)} {s : Nat} {a b : Operand} {cv : Bool} (hcv : bvS X.st.σ s = some cv) (ha : X.okO ((s, true) :: L) a = true) (hb : X.okO ((s, false) :: L) b = true) (hL : AllL X.st.σ L) :
    (cv = true → (ev X.st.σ a).q = true) ∧ (cv = false → (ev X.st.σ b).q = true) :=
  ⟨fun e => X.okO_q hi ha ⟨by rw [hcv, e], hL⟩, fun e => X.okO_q hi hb ⟨by rw [hcv, e], hL⟩⟩

theorem apick_val {σ : List AV} {s : Nat} {x cx a b : AV} (hx : cx = x ∨ cx = x.st) (hs : σ.getD s .junk = x) {p : Prop} {r : AV} (h : apick cx a b = .val p r) : ∃ cv, bvS σ s = some cv ∧ ((cv = true → a.q = true) ∧ (cv = false → b.q = true) → p) := by
  unfold apick at h
  split at h
  · rename_i cv a' b' h1 h2
    cases h
    refine ⟨cv, ?_, fun k => k⟩
    unfold bvS
    rw [hs]
    rcases hx with e | e
    · rw [← e]; rfl
    · rw [← e]
  · cases h

theorem xstep_sound (hc : c.OK P) {ops : Array Oper} {o : Oper} {rs rs' : List D} {X Y : XS} {ps : List Prop} (hlen : ∀ d, o.dst = some d → d < X.st.σ.length) (hi : X.Inv) (h : xstep c P ops o rs X = some (ps, rs', Y)) (hp : AllP ps) :
    Y.Inv ∧ Y.st.σ.length = X.st.σ.length ∧ ∀ {rest : List Oper} {K : St → Prop}, aops c P ops rest Y.st K → aops c P ops (o :: rest) X.st K := by
  unfold xstep at h
  split at h
  · rename_i hg
    split at h
    · rename_i t x y ho
      split at h
      · rename_i ps' st' hx
        cases h
        obtain ⟨hst, ti, h1, h2⟩ := xstore_sound hx hp
        refine ⟨⟨fun s L hl => (by cases hl), fun s L hl => (by cases hl)⟩, by show st'.σ.length = _; rw [hst], fun {rest K} hK => ?_⟩
        unfold aops
        rw [show isWr o.op = true by rw [ho]; rfl, cond_true, hg]
        dsimp only
        unfold awr
        rw [ho]; dsimp only
        rw [h1]
        exact h2 _ hK
      · cases h
    · rename_i xs ts ho
      split at h
      · rename_i s x t t' hxs hts
        cases htt : (t == t') with
        | false => rw [htt] at h; cases h
        | true =>
          rw [htt, cond_true] at h
          split at h
          · rename_i ps' st' hx
            cases h
            obtain ⟨hst, ti, e, te, h1, h2, h3, h4⟩ := xappend_sound hx hp
            refine ⟨⟨fun s L hl => (by cases hl), fun s L hl => (by cases hl)⟩, hst, fun {rest K} hK => ?_⟩
            unfold aops
            rw [show isWr o.op = true by rw [ho]; rfl, cond_true, hg]
            dsimp only
            unfold awr
            rw [ho]; dsimp only
            rw [hxs, hts]; dsimp only
            rw [if_pos (by simpa using htt), h1]; dsimp only
            rw [h2]; dsimp only
            rw [h3]
            exact h4 _ hK
          · cases h
      · cases h
    · rename_i s a b ho
      cases hb : (X.okO [] (.tmp s) && X.okO [(s, true)] a && X.okO [(s, false)] b) with
      | false => rw [hb] at h; cases h
      | true =>
        rw [hb, cond_true] at h
        simp only [Bool.and_eq_true] at hb
        split at h
        · rename_i p r hpk
          rw [Option.map_eq_some_iff] at h
          obtain ⟨Y', hY, he⟩ := h
          cases he
          obtain ⟨y1, y2⟩ := putX_inv hi hY
          refine ⟨y1, by rw [y2]; exact putS_length _ _ _, fun hK => ?_⟩
          obtain ⟨cv, c1, c2⟩ := apick_val (.inl rfl) rfl hpk
          unfold aops
          rw [show isWr o.op = false by rw [ho]; rfl, cond_false, hg]
          dsimp only
          unfold out0
          rw [ho]; dsimp only
          unfold fin0
          rw [hpk]
          exact ⟨c2 (okO_pick hi c1 hb.1.2 hb.2 trivial), by rw [y2] at hK; exact hK⟩
        · cases h
    · cases h
    · rename_i t m k x ho
      split at h
      · rename_i h' hm
        cases h
        refine ⟨⟨fun s L hl => (by cases hl), fun s L hl => (by cases hl)⟩, rfl, fun {rest K} hK => ?_⟩
        unfold aops
        rw [show isWr o.op = true by rw [ho]; rfl, cond_true, hg]
        dsimp only
        unfold awr
        rw [ho]; dsimp only
        rw [hm]
        exact hK
      · cases h
    · rename_i t m s x ho
      split at h
      · rename_i h' hm
        cases h
        refine ⟨⟨fun s L hl => (by cases hl), fun s L hl => (by cases hl)⟩, rfl, fun {rest K} hK => ?_⟩
        unfold aops
        rw [show isWr o.op = true by rw [ho]; rfl, cond_true, hg]
        dsimp only
        unfold awr
        rw [ho]; dsimp only
        rw [hm]
        exact hK
      · cases h
    · rename_i t m ho
      split at h
      · rename_i ps' st' hx
        rw [Option.map_eq_some_iff] at h
        obtain ⟨Y', hY, he⟩ := h
        cases he
        obtain ⟨r, h', hst⟩ := xmap_st hx
        rw [hst] at hY
        obtain ⟨y1, y2⟩ := putX_inv (r := r) hi hY
        refine ⟨y1, by rw [y2]; exact putS_length _ _ _, fun {rest K} hK => ?_⟩
        unfold aops
        rw [show isWr o.op = false by rw [ho]; rfl, cond_false, hg]
        dsimp only
        have := xmap0 hc hx hp (P := P) (K := fun st' => aops c P ops rest st' K) (by rw [hst, ← y2]; exact hK)
        unfold out0
        rw [ho]
        exact this
      · cases h
    · rename_i t m k ho
      split at h
      · rename_i ps' st' hx
        rw [Option.map_eq_some_iff] at h
        obtain ⟨Y', hY, he⟩ := h
        cases he
        obtain ⟨r, h', hst⟩ := xmap_st hx
        rw [hst] at hY
        obtain ⟨y1, y2⟩ := putX_inv (r := r) hi hY
        refine ⟨y1, by rw [y2]; exact putS_length _ _ _, fun {rest K} hK => ?_⟩
        unfold aops
        rw [show isWr o.op = false by rw [ho]; rfl, cond_false, hg]
        dsimp only
        have := xmap0 hc hx hp (P := P) (K := fun st' => aops c P ops rest st' K) (by rw [hst, ← y2]; exact hK)
        unfold out0
        rw [ho]
        exact this
      · cases h
    · rename_i hn1 hn2 hn3 hn4 hn5 hn6 hn7 hn8
      have hw : isWr o.op = false := by
        unfold isWr
        split
        · rename_i t x y ho; exact absurd ho (hn1 t x y)
        · rename_i ho; exact absurd ho (hn5 _ _ _ _)
        · rename_i ho; exact absurd ho (hn6 _ _ _ _)
        · rename_i xs ts ho; exact absurd ho (hn2 xs ts)
        · rfl
      split at h
      · rename_i ps' rs2 st' hx
        rw [Option.map_eq_some_iff] at h
        obtain ⟨Y', hY, he⟩ := h
        cases he
        obtain ⟨r, h', hst⟩ := xpure_st hx
        rw [hst] at hY
        obtain ⟨y1, y2⟩ := putX_inv (r := id r) hi hY
        refine ⟨y1, by rw [y2]; exact putS_length _ _ _, fun hK => ?_⟩
        unfold aops
        rw [hw, cond_false, hg]
        dsimp only
        have := xpure0 hx hp (K := fun st' => aops c P ops _ st' _) (by rw [hst, ← y2]; exact hK)
        unfold out0
        split
        · rename_i c' a' b' ho; exact absurd ho (hn4 c' a' b')
        · exact this
      · cases h
  · rename_i j want hg
    cases hw : isWr o.op with
    | true => rw [hw] at h; cases h
    | false =>
      rw [hw, cond_false] at h
      split at h
      · rename_i d hd
        · split at h
          · rename_i A g hA hgof
            obtain ⟨g1, g2, g3⟩ := gof_len hi hd hA hgof
            split at h
            · rename_i s a b ho
              cases hb : (X.okO ((d, want) :: A) (.tmp s) && X.okO ((s, true) :: (d, want) :: A) a && X.okO ((s, false) :: (d, want) :: A) b) with
              | false => rw [hb] at h; cases h
              | true =>
                rw [hb, cond_true] at h
                simp only [Bool.and_eq_true] at hb
                split at h
                · rename_i p r hpk
                  rw [Option.map_eq_some_iff] at h
                  obtain ⟨Y', hY, he⟩ := h
                  cases he
                  obtain ⟨y1, y2⟩ := putX_invG (X := ⟨X.st, X.γ, d :: X.wr⟩) ⟨hi.at_, fun s L hl => ⟨List.mem_cons_of_mem _ (hi.wr s L hl).1, fun y hy => List.mem_cons_of_mem _ ((hi.wr s L hl).2 y hy)⟩⟩ g1 g2 g3 hlen hY
                  refine ⟨y1, by rw [y2]; exact putS_length _ _ _, fun hK => ?_⟩
                  obtain ⟨cv, c1, c2⟩ := apick_val (x := ev X.st.σ (.tmp s)) (.inr rfl) rfl hpk
                  unfold aops
                  rw [hw, cond_false, hg]
                  dsimp only
                  rw [hgof]; dsimp only
                  unfold outG
                  rw [ho]; dsimp only
                  unfold finG
                  rw [hpk]
                  exact ⟨fun hgt => X.okO_q hi hb.1.1 (g1 hgt), fun hgt => c2 (okO_pick hi c1 hb.1.2 hb.2 (g1 hgt)), by rw [y2] at hK; exact hK⟩
                · cases h
            · cases h
            · rename_i hn4 hn5
              cases hb : o.op.operands.toList.all (X.okO ((d, want) :: A)) with
              | false => rw [hb] at h; cases h
              | true =>
                rw [hb, cond_true] at h
                split at h
                · rename_i ps' rs2 st' hx
                  rw [Option.map_eq_some_iff] at h
                  obtain ⟨Y', hY, he⟩ := h
                  cases he
                  obtain ⟨r, h', hst⟩ := xpure_st hx
                  rw [hst] at hY
                  obtain ⟨y1, y2⟩ := putX_invG (X := ⟨X.st, X.γ, d :: X.wr⟩) ⟨hi.at_, fun s L hl => ⟨List.mem_cons_of_mem _ (hi.wr s L hl).1, fun y hy => List.mem_cons_of_mem _ ((hi.wr s L hl).2 y hy)⟩⟩ g1 g2 g3 hlen hY
                  refine ⟨y1, by rw [y2]; exact putS_length _ _ _, fun hK => ?_⟩
                  unfold aops
                  rw [hw, cond_false, hg]
                  dsimp only
                  rw [hgof]; dsimp only
                  have := xpureG g1 hx hp (K := fun st' => aops c P ops _ st' _) (by rw [hst, ← y2]; exact hK)
                  unfold outG
                  split
                  · rename_i c' a' b' ho; exact absurd ho (hn5 c' a' b')
                  · exact ⟨fun hgt => qs_all hi hb (g1 hgt), this⟩
                · cases h
          · cases h
      · cases h

theorem xrun_sound (hc : c.OK P) {ops : Array Oper} : ∀ {seg : List Oper} {rs rs' : List D} {X Y : XS} {ps : List Prop}, (∀ o ∈ seg, ∀ d, o.dst = some d → d < X.st.σ.length) → X.Inv → xrun c P ops seg rs X = some (ps, rs', Y) → AllP ps →
    Y.Inv ∧ ∀ {rest : List Oper} {K : St → Prop}, aops c P ops rest Y.st K → aops c P ops (seg ++ rest) X.st K
  | [], rs, rs', X, Y, ps, _, hi, h, _ => by
    simp only [xrun, Option.some.injEq, Prod.mk.injEq] at h
    obtain ⟨_, _, rfl⟩ := h
    exact ⟨hi, fun h => h⟩
  | o :: seg, rs, rs', X, Y, ps, hlen, hi, h, hp => by
    simp only [xrun] at h
    split at h
    · rename_i ps1 rs1 X1 h1
      split at h
      · rename_i ps2 rs2 X2 h2
        cases h
        obtain ⟨hp1, hp2⟩ := AllP_app hp
        obtain ⟨i1, l1, k1⟩ := xstep_sound hc (fun d hd => hlen o (by simp) d hd) hi h1 hp1
        obtain ⟨i2, k2⟩ := xrun_sound hc (fun o ho d hd => by rw [l1]; exact hlen o (by simp [ho]) d hd) i1 h2 hp2
        exact ⟨i2, fun hK => k1 (k2 hK)⟩
      · cases h
    · cases h

def setm (σ : List AV) : List (Nat × AV) → List AV
  | [] => σ
  | x :: l => setm (σ.set x.1 x.2) l

def isJ : AV → Bool
  | .junk => true
  | _ => false

/-- The slots to forget: what was written and is not kept; what is to be junk. -/
def deadL (wr : List Nat) (us : List (Nat × AV)) : List Nat := wr.filter (fun s => !(us.any fun x => x.1 == s)) ++ (us.filter fun x => isJ x.2).map (·.1)

def dstOK (n : Nat) (l : List Oper) : Bool := l.all fun o => match o.dst with | some d => decide (d < n) | none => true

/-- A whole region: the debts, the state behind. -/
def xfin (c : Cfg) (P : Program) (ops : Array Oper) (draws : Bool) (rs : List D) (us : List (Nat × AV)) (st : St) : Option (List Prop × St) :=
  bif (bif draws then okOrder ops (ops.toList.takeWhile fun o => !isWr o.op).length else okStore ops.toList) && dstOK st.σ.length ops.toList then
    match xrun c P ops ops.toList rs ⟨st, [], []⟩ with
    | some (ps, [], X) => some (ps, ⟨forgetL (deadL X.wr us) X.st.σ, X.st.h⟩)
    | _ => none
  else none

variable {nr : Bool}

theorem AC.sr (hc : c.OK P) (hm : P.follows .mixedOrders = true) {id : Nat} {ops : Array Oper} {dr : Bool} {b : Code} {st : St} {K : Exit → St → Prop} (rs : List D) (us : List (Nat × AV)) (hf : List HObj → List HObj) (ps : List Prop)
    (hx : xfin c P ops dr rs us st = some (ps, ⟨setm st.σ us, hf st.h⟩)) (hp : AllP ps) (hK : AC c P nr b ⟨setm st.σ us, hf st.h⟩ K) : AC c P nr (.seq (.region id ops dr) b) st K := by
  unfold xfin at hx
  cases hb : ((bif dr then okOrder ops (ops.toList.takeWhile fun o => !isWr o.op).length else okStore ops.toList) && dstOK st.σ.length ops.toList) with
  | false => rw [hb] at hx; cases hx
  | true =>
    rw [hb, cond_true] at hx
    simp only [Bool.and_eq_true] at hb
    obtain ⟨hb1, hb2⟩ := hb
    split at hx
    · rename_i qs X hrun
      simp only [Option.some.injEq, Prod.mk.injEq] at hx
      obtain ⟨rfl, hst⟩ := hx
      have hl : ∀ o ∈ ops.toList, ∀ d, o.dst = some d → d < st.σ.length := fun o ho d hd => by
        have := (List.all_eq_true.1 hb2) o ho
        rw [hd] at this
        simpa using this
      obtain ⟨_, hs⟩ := xrun_sound hc (X := ⟨st, [], []⟩) hl ⟨fun s L h => (by cases h), fun s L h => (by cases h)⟩ hrun hp
      have hle : X.st.le ⟨setm st.σ us, hf st.h⟩ := by
        rw [← hst]
        exact St.le_forget _ rfl
      have haops : ∀ {K : St → Prop}, K X.st → aops c P ops ops.toList st K := fun hk => by
        have := hs (rest := []) (K := _) hk
        rwa [List.append_nil] at this
      refine AC.seq ?_
      cases dr with
      | true => exact AC.draws hc hm _ hb1 (haops (K_seq (AC.le hle hK)))
      | false => exact AC.region hc hb1 (haops (K_seq (AC.le hle hK)))
    · cases hx
end
end Go.Jo
