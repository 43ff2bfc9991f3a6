/- A walk over the operations of a region, with what writes: stores, appends. Over any program. -/
import Derived.Test.YtcmlhhjnbopbnaaJoJ7
import Derived.Maps.AppendAt
namespace Go.Jo
open Go.RowKit
set_option autoImplicit false

/-- The rows that a walk goes by: types, comparable types, slice types whose literals are written. -/
structure Cfg where
  T : Nat → Option TI
  Q : Nat → Bool
  O : Nat → Bool

structure Cfg.OK (c : Cfg) (P : Program) : Prop where
  T : TOK P c.T
  Q : EqOK P c.Q

/-- A value of one cell for sure. -/
def AV.one : AV → Bool
  | .d x => x.one
  | .rp _ | .bp _ _ | .ow _ _ _ | .ep _ _ _ _ | .fn _ _ _ | .mv _ => true
  | .ag _ | .tu _ | .opt _ _ | .yl _ | .sm _ | .junk => false

theorem AV.one_rep {H : Mem} {β : Bl} {x : AV} {v : Value} (h : Rep H β x v) (h1 : x.one = true) : v.oneCell' = true := by
  cases h with
  | d h => exact h.one (fun cs e => by subst e; cases h1) (fun cs e => by subst e; cases h1)
  | ag => cases h1
  | tu => cases h1
  | opt => cases h1
  | sm => cases h1
  | junk => cases h1
  | _ => rfl

def dwr (cs : List D) (off : Nat) : List D → List D
  | [] => cs
  | x :: l => dwr (cs.set off x) (off + 1) l

def astore (ti : TI) (av xv : AV) (st : St) (K : St → Prop) : Prop :=
  match xv.cells with
  | some xs =>
    match av with
    | .bp b off =>
      match st.h[b]? with
      | some (.box true cs bt) => (xs.all AV.one = true ∧ xs.length = ti.size ∧ off + xs.length ≤ cs.length) ∧ K ⟨st.σ, st.h.set b (.box true (wr cs off xs) bt)⟩
      | _ => False
    | .ep b k i off =>
      match st.h[b]?, allD xs with
      | some (.row k' n f bt), some ds => (k = k' ∧ ds.all D.one = true ∧ ds.length = ti.size ∧ i < n ∧ off + ds.length ≤ k) ∧ K ⟨st.σ, st.h.set b (.row k n (fun j => if j = i then dwr (f j) off ds else f j) bt)⟩
      | _, _ => False
    | _ => False
  | none => False

def AV.has (b : Nat) : AV → Bool
  | .d _ | .rp _ | .junk => false
  | .ag cs => hasL b cs
  | .tu cs => hasL b cs
  | .bp c _ => b == c
  | .ow c _ _ => b == c
  | .ep c _ _ _ => b == c
  | .fn _ x y => hasL b x || hasL b y
  | .opt _ x => x.has b
  | .yl c => b == c
  | .mv c => b == c
  | .sm c => b == c
where hasL (b : Nat) : List AV → Bool
  | [] => false
  | x :: l => x.has b || hasL b l

def AV.kill (b : Nat) (x : AV) : AV := bif x.has b then .junk else x

def HObj.kill (b : Nat) : HObj → HObj
  | .box w cs t => .box w (cs.map (AV.kill b)) t
  | .ghost xs vs ds => .ghost (xs.map (AV.kill b)) vs ds
  | .lp s p L xs => .lp s p L (xs.map (AV.kill b))
  | .en b' K => bif b' == b then .dead else .en b' K
  | .it b' s se st => bif b' == b then .dead else .it b' s se st
  | o => o

/-- What is appended: elements, how many. -/
def asrc (h : List HObj) : AV → Option (Nat × Nat × (Nat → List D))
  | .d (.sl k m f) => some (k, m, f)
  | .ow b m k =>
    match h[b]? with
    | some (.row k' m' f _) => if m = m' ∧ k = k' then some (k, m, f) else none
    | _ => none
  | _ => none

def aappend (te : TI) (e : Nat) (sv xv : AV) (dst : Option Tmp) (st : St) (K : St → Prop) : Prop :=
  match asrc st.h xv with
  | some (k, m, fx) =>
    match sv with
    | .d (.v (.slice none 0 0)) => (te.size = k ∧ k ≠ 0 ∧ te.zero.length = k ∧ m ≤ maxLen ∧ m * te.bytes ≤ 140737488355328) ∧ K ⟨putS st.σ dst (.ow st.h.length m k), st.h ++ [.row k m fx e]⟩
    | .ow b n ks =>
      match st.h[b]? with
      | some (.row kr nr f bt) => (te.size = k ∧ k ≠ 0 ∧ te.zero.length = k ∧ ks = k ∧ kr = k ∧ nr = n ∧ bt = e ∧ n + m ≤ maxLen ∧ (n + m) * te.bytes ≤ 140737488355328) ∧
          K ⟨putS (st.σ.map (AV.kill b)) dst (.ow b (n + m) k), (st.h.map (HObj.kill b)).set b (.row k (n + m) (fun j => if j < n then f j else fx (j - n)) e)⟩
      | _ => False
    | _ => False
  | none => False

/-- A write into a map. -/
def isMW : Op → Bool
  | .mapUpdate _ _ _ _ | .entryStore _ _ _ _ => true
  | _ => false

def eqb (K c : List Value) : Bool := (eqV K c).getD false

/-- The objects behind a write into a map. -/
def mput (T : Nat → Option TI) (Q : Nat → Bool) (h : List HObj) (e : Operand → AV) (op : Op) : Option (List HObj) :=
  match op with
  | .mapUpdate t m k x =>
    match e m with
    | .mv b =>
      match h[b]? with
      | some (.mp zc za val has ps zs ag) =>
        match keyC ag (e k), (e x).toD with
        | some K, some d => bif keyOK T Q t zc za zs ag K then some (h.set b (.mp zc za (fun c => bif eqb K c then d else val c) (fun c => eqb K c || has c) ps zs ag)) else none
        | _, _ => none
      | _ => none
    | _ => none
  | .entryStore t m s x =>
    match e m, e s with
    | .mv b, .sm id =>
      match h[b]?, h[id]?, (e x).toD with
      | some (.mp zc za val has ps zs ag), some (.en b' K), some d =>
        bif b' == b && keyOK T Q t zc za zs ag K then some (h.set b (.mp zc za (fun c => bif eqb K c then d else val c) (fun c => eqb K c || has c) ps zs ag)) else none
      | _, _, _ => none
    | _, _ => none
  | _ => none

def isWr : Op → Bool
  | .store _ _ _ => true
  | .mapUpdate _ _ _ _ => true
  | .entryStore _ _ _ _ => true
  | .call { callee := .builtin .append, .. } => true
  | _ => false

def awr (c : Cfg) (o : Oper) (st : St) (K : St → Prop) : Prop :=
  match o.op with
  | .store t x y =>
    match c.T t with
    | some ti => astore ti (ev st.σ x) (ev st.σ y) st K
    | none => False
  | .call { callee := .builtin .append, args := xs, argTypes := ts } =>
    match xs.toList, ts.toList with
    | [s, x], [t, t'] => if t = t' then
        match c.T t with
        | some ti =>
          match ti.tk with
          | .slice e =>
            match c.T e with
            | some te => aappend te e (ev st.σ s) (ev st.σ x) o.dst st K
            | none => False
          | _ => False
        | none => False
      else False
    | _, _ => False
  | .mapUpdate t m k x =>
    match mput c.T c.Q st.h (ev st.σ) (.mapUpdate t m k x) with
    | some h' => K ⟨st.σ, h'⟩
    | none => False
  | .entryStore t m s x =>
    match mput c.T c.Q st.h (ev st.σ) (.entryStore t m s x) with
    | some h' => K ⟨st.σ, h'⟩
    | none => False
  | _ => False

def fin0 (P : Program) (dst : Option Tmp) (st : St) (out : Out) (K : St → Prop) : Prop :=
  match out with
  | .bad => False
  | .val p r => p ∧ K ⟨putS st.σ dst r, st.h⟩
  | .box p cs t => p ∧ K ⟨putS st.σ dst (.bp st.h.length 0), st.h ++ [.box true cs t]⟩
  | .row p k n f t => p ∧ K ⟨putS st.σ dst (.ow st.h.length n k), st.h ++ [.row k n f t]⟩
  | .lit p k n f _ => p ∧ K ⟨putS st.σ dst (.d (.sl k n f)), st.h⟩
  | .call f args => ∃ r, ACall P f args r ∧ K ⟨putS st.σ dst (.d r), st.h⟩
  | .mk z zc za zs ag => (∀ H, RepD H z (mkK za zc)) ∧ K ⟨putS st.σ dst (.mv st.h.length), st.h ++ [.mp zc za (fun _ => z) (fun _ => false) [] zs ag]⟩
  | .ent p d b k _ => p ∧ K ⟨putS st.σ dst (.tu [.d d, .sm st.h.length]), st.h ++ [.en b k]⟩

def finG (P : Program) (c : Bool) (dst : Option Tmp) (st : St) (out : Out) (K : St → Prop) : Prop :=
  match out with
  | .bad => False
  | .val p r => (c = true → p) ∧ K ⟨putS st.σ dst (.opt c r), st.h⟩
  | .box p cs t => (c = true → p) ∧ K ⟨putS st.σ dst (.opt c (.bp st.h.length 0)), st.h ++ [.box true cs t]⟩
  | .row p k n f t => (c = true → p) ∧ K ⟨putS st.σ dst (.opt c (.ow st.h.length n k)), st.h ++ [.row k n f t]⟩
  | .lit p k n f _ => (c = true → p) ∧ K ⟨putS st.σ dst (.opt c (.d (.sl k n f))), st.h⟩
  | .call f args => ∃ r, (c = true → ACall P f args r) ∧ K ⟨putS st.σ dst (.opt c (.d r)), st.h⟩
  | .mk _ _ _ _ _ => False
  | .ent _ _ _ _ _ => False

/-- The walk of a region's operations. -/
def aops (c : Cfg) (P : Program) (ops : Array Oper) : List Oper → St → (St → Prop) → Prop
  | [], st, K => K st
  | o :: rest, st, K =>
    bif isWr o.op then
      match o.guard with
      | none => awr c o st fun st' => aops c P ops rest st' K
      | some _ => False
    else
      match o.guard with
      | none => fin0 P o.dst st (out0 c.T c.Q c.O st o.op) fun st' => aops c P ops rest st' K
      | some (j, want) =>
        match gof st.σ ops j want with
        | some g => (g = true → (outG c.T c.Q c.O st o.op).1) ∧ finG P g o.dst st (outG c.T c.Q c.O st o.op).2 fun st' => aops c P ops rest st' K
        | none => False

/-! ### pure operations: the trace -/
inductive Run (P : Program) (ops : Array Oper) : List Oper → St → List (AV × Option HObj) → St → Prop
  | nil {st : St} : Run P ops [] st [] st
  | cons {o : Oper} {rest : List Oper} {st st' : St} {r : AV} {no : Option HObj} {rs : List (AV × Option HObj)} (hy : Yld P ops o st.σ st.h r no)
      (h : Run P ops rest ⟨putS st.σ o.dst r, st.h ++ no.toList⟩ rs st') : Run P ops (o :: rest) st ((r, no) :: rs) st'

section
variable {P : Program} {c : Cfg}

theorem fin0_step (hc : c.OK P) {ops : Array Oper} {o : Oper} {st : St} {K : St → Prop} (hg : o.guard = none) (h : fin0 P o.dst st (out0 c.T c.Q c.O st o.op) K) :
    ∃ r no, Yld P ops o st.σ st.h r no ∧ K ⟨putS st.σ o.dst r, st.h ++ no.toList⟩ := by
  generalize ho : out0 c.T c.Q c.O st o.op = out at h
  unfold fin0 at h
  split at h
  · cases h
  · exact ⟨_, none, yld0 hc.T hc.Q hg ho (.val h.1), by simpa using h.2⟩
  · exact ⟨_, _, yld0 hc.T hc.Q hg ho (.box h.1), h.2⟩
  · exact ⟨_, _, yld0 hc.T hc.Q hg ho (.row h.1), h.2⟩
  · exact ⟨_, none, yld0 hc.T hc.Q hg ho (.lit h.1), by simpa using h.2⟩
  · obtain ⟨r, h1, h2⟩ := h
    exact ⟨_, none, yld0 hc.T hc.Q hg ho (.call h1), by simpa using h2⟩
  · exact ⟨_, _, yld0 hc.T hc.Q hg ho (.mk h.1), h.2⟩
  · exact ⟨_, _, yld0 hc.T hc.Q hg ho (.ent h.1), h.2⟩

theorem finG_step (hc : c.OK P) {ops : Array Oper} {o : Oper} {st : St} {K : St → Prop} {j : Nat} {want g : Bool} (hg : o.guard = some (j, want)) (hj : gof st.σ ops j want = some g)
    (hq : g = true → (outG c.T c.Q c.O st o.op).1) (h : finG P g o.dst st (outG c.T c.Q c.O st o.op).2 K) :
    ∃ r no, Yld P ops o st.σ st.h r no ∧ K ⟨putS st.σ o.dst r, st.h ++ no.toList⟩ := by
  obtain ⟨q, out, ho⟩ : ∃ q out, outG c.T c.Q c.O st o.op = (q, out) := ⟨_, _, rfl⟩
  rw [ho] at hq h
  unfold finG at h
  simp only at h hq
  split at h
  · cases h
  · exact ⟨_, none, yldG hc.T hc.Q hg hj ho hq (fun e => .val (h.1 e)) (fun _ e => by cases e), by simpa using h.2⟩
  · exact ⟨_, _, yldG hc.T hc.Q hg hj ho hq (fun e => .box (h.1 e)) (fun _ e => by cases e; rfl), h.2⟩
  · exact ⟨_, _, yldG hc.T hc.Q hg hj ho hq (fun e => .row (h.1 e)) (fun _ e => by cases e; rfl), h.2⟩
  · exact ⟨_, none, yldG hc.T hc.Q hg hj ho hq (fun e => .lit (h.1 e)) (fun _ e => by cases e), by simpa using h.2⟩
  · obtain ⟨r, h1, h2⟩ := h
    exact ⟨_, none, yldG hc.T hc.Q hg hj ho hq (fun e => .call (h1 e)) (fun _ e => by cases e), by simpa using h2⟩
  · exact h.elim
  · exact h.elim

theorem aops_step (hc : c.OK P) {ops : Array Oper} {o : Oper} {rest : List Oper} {st : St} {K : St → Prop} (hw : isWr o.op = false) (h : aops c P ops (o :: rest) st K) :
    ∃ r no, Yld P ops o st.σ st.h r no ∧ aops c P ops rest ⟨putS st.σ o.dst r, st.h ++ no.toList⟩ K := by
  unfold aops at h
  rw [hw, cond_false] at h
  split at h
  · rename_i hg; exact fin0_step hc hg h
  · rename_i j want hg
    split at h
    · rename_i g hj; exact finG_step hc hg hj h.1 h.2
    · cases h

theorem aops_run (hc : c.OK P) {ops : Array Oper} {ws : List Oper} {K : St → Prop} : ∀ {ps : List Oper} {st : St}, (∀ o ∈ ps, isWr o.op = false) → aops c P ops (ps ++ ws) st K →
    ∃ rs st', Run P ops ps st rs st' ∧ aops c P ops ws st' K
  | [], st, _, h => ⟨[], st, .nil, h⟩
  | o :: ps, st, hp, h => by
    obtain ⟨r, no, hy, h1⟩ := aops_step hc (hp o (by simp)) h
    obtain ⟨rs, st', hr, h2⟩ := aops_run hc (fun o ho => hp o (by simp [ho])) h1
    exact ⟨_, st', .cons hy hr, h2⟩

/-! ### one operation in the order of the text -/
theorem Sl.looks {σ : List AV} {g : G} {a : Act} (h : Sl σ g a) (t : Tmp) : Rep g.H g.β (σ.getD t .junk) (a.tmps.getD t undef) := by
  rw [List.getD_eq_getElem?_getD]
  cases hh : σ[t]? with
  | none => exact .junk
  | some x => exact h.at_ t x hh

theorem put_defers (a : Act) (d : Option Tmp) (v : Value) : (a.put d v).defers = a.defers := by cases d <;> rfl

theorem Dfr.app {E : Ctx} {h l : List HObj} {β : Bl} {ds : List Deferred} (k : Dfr E h β ds) : Dfr E (h ++ l) β ds :=
  k.mono (fun i hi => by rw [List.getElem?_append_left (List.getElem?_eq_some_iff.1 hi).1]; exact hi) (fun _ _ h => h)

theorem Yld.seq {rd : Option Nat} {ops : Array Oper} {o : Oper} {st : St} {r : AV} {no : Option HObj} (hy : Yld P ops o st.σ st.h r no) {E : Ctx} {g : G} {a : Act} {w : World} (hr : Rel E st g a w) {next : Act → World → Prop} {Q : Exit → Act → World → Prop}
    (hn : ∀ g' a' w', Rel E ⟨putS st.σ o.dst r, st.h ++ no.toList⟩ g' a' w' → next a' w') :
    if Region.wanted o (yielded ops a.tmps) then Oper.wpr rd P o a w next Q else next (a.put o.dst undef) w := by
  have := hy.2 rd E g a w (st.h ++ no.toList) (Agr.pre (List.prefix_append _ _)) (fun ob hob => by subst hob; exact ⟨by simp, hr.wd.none_of_le _ (Nat.le_refl _)⟩) (hr.wd.more _ (fun ob hob => hy.1 ob (by cases no with | none => simp at hob | some x => simp at hob; rw [hob]))) (fun t _ => hr.sl.looks t) next Q
    (fun g' v w' k1 k2 _ k4 k5 => hn g' _ w' ⟨(hr.sl.mono k1 k2).putS o.dst k5, k4, by rw [put_defers]; exact (hr.df.app).mono (fun _ h => h) k2⟩)
  split
  · rename_i h; exact this.1 h
  · rename_i h; exact this.2 (by simpa using h)

end
end Go.Jo
