/- A walk over the operations of a region: in the order of the text, with guards; what one operation yields in whatever order. Over any program. -/
import Derived.Test.YtcmlhhjnbopbnaaJoJ6m
import Derived.OrdersIn
namespace Go.Jo
open Go.RowKit
set_option autoImplicit false

/-- All functions may be called; the walk is of an activation, or of a round of a range over a function. -/
abbrev FR (r : Option Nat) : Fence := { Fence.wide with round := r }

theorem callsIn_FR {r : Option Nat} {n : Nat} {P : Program} {f : FuncId} {args : Array Value} {w : World} {R : Ending → World → Prop} (h : Calls P f args w R) : CallsIn (FR r) n P f args w R :=
  show CallsIn Fence.wide n P f args w R from callsIn_wide.2 h
theorem calls_FR {r : Option Nat} {n : Nat} {P : Program} {f : FuncId} {args : Array Value} {w : World} {R : Ending → World → Prop} (h : CallsIn (FR r) n P f args w R) : Calls P f args w R :=
  callsIn_wide.1 (show CallsIn Fence.wide n P f args w R from h)

abbrev Oper.wpr (r : Option Nat) (P : Program) (o : Oper) (a : Act) (w : World) (next : Act → World → Prop) (Q : Exit → Act → World → Prop) : Prop := o.wpIn (FR r) 0 P a w next Q

section
variable {rd : Option Nat} {P : Program} {o : Oper} {a : Act} {w w' : World} {next : Act → World → Prop} {Q : Exit → Act → World → Prop}
theorem wpr_value (hd : ∀ c, o.op ≠ .defer c) {v : Value} (h : (execOp a.eval o).run P w = .ok (.value v) w') (hn : next (a.put o.dst v) w') : Oper.wpr rd P o a w next Q :=
  ⟨fun _ _ => trivial, by rw [Oper.semAt_eq _ _ _ hd, h]; exact hn⟩
theorem wpr_skip (hd : ∀ c, o.op ≠ .defer c) (h : (execOp a.eval o).run P w = .ok .skip w') (hn : next (a.put o.dst undef) w') : Oper.wpr rd P o a w next Q :=
  ⟨fun _ _ => trivial, by rw [Oper.semAt_eq _ _ _ hd, h]; exact hn⟩
theorem wpr_enter (hd : ∀ c, o.op ≠ .defer c) {f : FuncId} {args : Array Value} (h : (execOp a.eval o).run P w = .ok (.enter f args) w')
    (hn : Calls P f args w' fun e w'' => ∃ v, e = .returned v ∧ next (a.put o.dst v) w'') : Oper.wpr rd P o a w next Q :=
  ⟨fun _ _ => trivial, by
    rw [Oper.semAt_eq _ _ _ hd, h]
    refine ⟨fun h => (by cases h), (callsIn_FR hn).mono ?_⟩
    rintro e w'' ⟨v, rfl, hv⟩
    exact hv⟩
end

/-- A CONTRACT: called with these data the function returns that datum; nothing that was there has turned. -/
def ACall (P : Program) (f : FuncId) (args : List D) (r : D) : Prop :=
  FnOK P f ∧ ∀ (H : Mem) (vs : Array Value) (w : World), vs.size = args.length → (∀ i x, args[i]? = some x → RepD H x (vs.getD i undef)) → (∀ p x, H p = some x → w.cell? p = some x) →
    Calls P f vs w fun e w' => ∃ v H', e = .returned v ∧ RepD H' r v ∧ (∀ p x, H p = some x → H' p = some x) ∧ (∀ p x, H' p = some x → H p = some x ∨ w.heap.size ≤ p.block) ∧
      (∀ p x, H' p = some x → w'.cell? p = some x) ∧ Below w.heap.size w w'

def AV.q : AV → Bool
  | .opt c _ => c
  | _ => true

def AV.st : AV → AV
  | .opt _ x => x
  | x => x

def cav : Value → AV
  | .agg _ | .tuple _ => .junk
  | v => .d (.v v)

def ev (σ : List AV) : Operand → AV
  | .tmp t => σ.getD t .junk
  | .const v => cav v
  | .global _ => .junk
  | .func f => .fn (.func f) [] []

def evs (σ : List AV) (x : Operand) : AV := (ev σ x).st

/-- 'c && ..', 'c || ..'. -/
def apick (c x y : AV) : Out :=
  match c, x.st, y.st with
  | .d (.v (.bool c)), .d (.v (.bool a)), .d (.v (.bool b)) => .val ((c = true → x.q = true) ∧ (c = false → y.q = true)) (.d (.v (.bool (bif c then a else b))))
  | _, _, _ => .bad

/-- The guard's truth. -/
def gof (σ : List AV) (ops : Array Oper) (j : Nat) (want : Bool) : Option Bool :=
  match (ops[j]?).bind (·.dst) with
  | some d =>
    match σ.getD d .junk with
    | .d (.v (.bool b)) => some (bif want then b else !b)
    | .opt q (.d (.v (.bool b))) => some (q && (bif want then b else !b))
    | _ => none
  | none => none

def qs (σ : List AV) (l : List Operand) : Bool := l.all fun x => (ev σ x).q

/-- What an operation comes to, without a guard, under one. -/
def out0 (T : Nat → Option TI) (Q O : Nat → Bool) (st : St) (op : Op) : Out :=
  match op with
  | .pick c a b => apick (ev st.σ c) (ev st.σ a) (ev st.σ b)
  | op => pop T Q O st.h (ev st.σ) op

def outG (T : Nat → Option TI) (Q O : Nat → Bool) (st : St) (op : Op) : Prop × Out :=
  match op with
  | .pick c a b => ((ev st.σ c).q = true, apick (ev st.σ c).st (ev st.σ a) (ev st.σ b))
  | op => (qs st.σ op.operands.toList = true, pop T Q O st.h (evs st.σ) op)

/-- Objects alike, of maps where maps are looked at. -/
def Agr (mr : Bool) (h hf : List HObj) : Prop := ∀ (i : Nat) (ob : HObj), h[i]? = some ob → (mr = true ∨ ob.isMp = false) → hf[i]? = some ob

theorem Agr.pre {mr : Bool} {h hf : List HObj} (hp : h <+: hf) : Agr mr h hf := fun i ob hi _ => by
  obtain ⟨l, rfl⟩ := hp
  rw [List.getElem?_append_left (List.getElem?_eq_some_iff.1 hi).1]; exact hi

def demp : HObj → HObj
  | .mp _ _ _ _ _ _ _ => .dead
  | .mx _ _ _ _ _ _ _ _ => .dead
  | o => o
def dm (mr : Bool) (h : List HObj) : List HObj := bif mr then h else h.map demp

theorem Seen.agr {mr : Bool} {h hf : List HObj} {g : G} {w : World} (hp : Agr mr h hf) (hs : Seen hf g w) : Seen (dm mr h) g w :=
  ⟨hs.imm, fun i o b c ho hb => by
    cases mr with
    | true => exact hs.obj i o b c (hp i o ho (.inl rfl)) hb
    | false =>
      simp only [dm, cond_false, List.getElem?_map, Option.map_eq_some_iff] at ho
      obtain ⟨o', h1, rfl⟩ := ho
      cases o' with
      | mp => trivial
      | mx => trivial
      | _ => exact hs.obj i _ b c (hp i _ h1 (.inr rfl)) hb⟩

theorem ald_demp {ti : TI} {h : List HObj} {av : AV} : ald ti (h.map demp) av = ald ti h av := by
  cases av <;> try rfl
  case bp b off =>
    unfold ald
    simp only [List.getElem?_map]
    cases h[b]? with
    | none => rfl
    | some o => cases o <;> rfl
  case ep b k i off =>
    unfold ald
    simp only [List.getElem?_map]
    cases h[b]? with
    | none => rfl
    | some o => cases o <;> rfl

theorem pop_dm {T : Nat → Option TI} {Q O : Nat → Bool} {h : List HObj} {e : Operand → AV} {op : Op} : pop T Q O (dm (mapRd op) h) e op = pop T Q O h e op := by
  cases hm : mapRd op with
  | true => rfl
  | false =>
    simp only [dm, cond_false]
    unfold pop
    cases op <;> first | rfl | (simp only [ald_demp]; done) | (simp [mapRd] at hm; done) | (rename_i t r; cases r <;> rfl)

theorem pop_ent {T : Nat → Option TI} {Q O : Nat → Bool} {h : List HObj} {e : Operand → AV} {op : Op} {p : Prop} {d : D} {b : Nat} {K : List Value} {ob : HObj} (hp : pop T Q O h e op = .ent p d b K ob) :
    mapRd op = true ∧ h[b]? = some ob ∧ ∃ zc za val has ps zs ag, ob = .mp zc za val has ps zs ag := by
  unfold pop at hp
  split at hp
  all_goals first | (cases hp; done) | skip
  all_goals repeat' first | (cases hp; done) | split at hp
  all_goals first
    | (unfold ald at hp; repeat' first | (cases hp; done) | split at hp)
    | (unfold amove at hp; repeat' first | (cases hp; done) | split at hp)
    | (unfold apart at hp; repeat' first | (cases hp; done) | split at hp)
    | (unfold aidx amove at hp; repeat' first | (cases hp; done) | split at hp)
    | (unfold aindex apart at hp; repeat' first | (cases hp; done) | split at hp)
    | (unfold aslice at hp; repeat' first | (cases hp; done) | split at hp)
    | (unfold bop iop sop at hp; repeat' first | (cases hp; done) | split at hp)
    | (unfold aun at hp; repeat' first | (cases hp; done) | split at hp)
    | (unfold aconv at hp; repeat' first | (cases hp; done) | split at hp)
    | (unfold amki at hp; repeat' first | (cases hp; done) | split at hp)
    | (unfold aextr at hp; repeat' first | (cases hp; done) | split at hp)
    | (unfold abuild at hp; repeat' first | (cases hp; done) | split at hp)
    | (unfold abuildSlice at hp; repeat' first | (cases hp; done) | split at hp)
    | (unfold amakeSlice at hp; repeat' first | (cases hp; done) | split at hp)
    | (unfold abuiltin at hp; repeat' first | (cases hp; done) | split at hp)
    | (unfold amake at hp; repeat' first | (cases hp; done) | split at hp)
    | skip
  · rename_i t m k ok
    unfold alook at hp
    split at hp
    · split at hp
      · split at hp
        · cases hx : keyOK T Q t _ _ _ _ _ with
          | false => rw [hx] at hp; cases hp
          | true =>
            rw [hx, cond_true] at hp
            cases ok with
            | true => rw [cond_true] at hp; split at hp <;> cases hp
            | false => cases hp
        · cases hp
      · cases hp
    · cases hp
  · rename_i t m k
    refine ⟨rfl, ?_⟩
    unfold aent at hp
    repeat' first | (cases hp; done) | split at hp
    rename_i hob _ _ _
    cases hx : keyOK T Q t _ _ _ _ _ with
    | false => rw [hx] at hp; cases hp
    | true => rw [hx] at hp; cases hp; exact ⟨hob, _, _, _, _, _, _, _, rfl⟩

/-- One operation in whatever order: where the slots that it looks at hold what they hold in the order of the text, it yields what it yields there. -/
def Yld (P : Program) (ops : Array Oper) (o : Oper) (σ : List AV) (h : List HObj) (r : AV) (no : Option HObj) : Prop :=
  (∀ ob, no = some ob → ob.gfree = true) ∧ ∀ (rd : Option Nat) (E : Ctx) (g : G) (a : Act) (w : World) (hf : List HObj), Agr (mapRd o.op) h hf → (∀ ob, no = some ob → hf[h.length]? = some ob ∧ g.β h.length = none) → Wd E hf g w →
    (∀ t ∈ o.looksAt ops, Rep g.H g.β (σ.getD t .junk) (a.tmps.getD t undef)) →
    ∀ (next : Act → World → Prop) (Q : Exit → Act → World → Prop),
      (∀ g' v w', (∀ p x, g.H p = some x → g'.H p = some x) → (∀ b x, g.β b = some x → g'.β b = some x) → (∀ b, g'.β b ≠ g.β b → no ≠ none ∧ b = h.length) → Wd E hf g' w' → Rep g'.H g'.β r v → next (a.put o.dst v) w') →
      (Region.wanted o (yielded ops a.tmps) = true → Oper.wpr rd P o a w next Q) ∧ (Region.wanted o (yielded ops a.tmps) = false → next (a.put o.dst undef) w)

section
variable {P : Program} {T : Nat → Option TI} {Q O : Nat → Bool}

theorem ev_rep {σ : List AV} {g : G} {a : Act} {x : Operand} (h : ∀ t, x = .tmp t → Rep g.H g.β (σ.getD t .junk) (a.tmps.getD t undef)) : Rep g.H g.β (ev σ x) (a.eval x) := by
  cases x with
  | tmp t => exact h t rfl
  | const v => cases v <;> first | exact .junk | exact .d (.v rfl)
  | global => exact .junk
  | func f => exact .fn rfl (fun i x h => by simp at h) rfl (fun i x h => by simp at h)

theorem Rep.st_of {H : Mem} {β : Bl} {x : AV} {v : Value} (h : Rep H β x v) (hq : x.q = true) : Rep H β x.st v := by
  cases h with
  | opt h h' => exact h hq
  | _ => constructor <;> assumption


/-- A new row that nobody will write. -/
def litMem (H : Mem) (w : World) (vs : Array Value) : Mem := fun p => if p.block = w.heap.size then (if p.spot.isSome then none else vs[p.off]?) else H p

inductive Resolves (P : Program) (id : Nat) : Out → AV → Option HObj → Prop
  | val {p : Prop} {r : AV} (hp : p) : Resolves P id (.val p r) r none
  | box {p : Prop} {cs : List AV} {t : Nat} (hp : p) : Resolves P id (.box p cs t) (.bp id 0) (some (.box true cs t))
  | row {p : Prop} {k n : Nat} {f : Nat → List D} {t : Nat} (hp : p) : Resolves P id (.row p k n f t) (.ow id n k) (some (.row k n f t))
  | lit {p : Prop} {k n : Nat} {f : Nat → List D} {t : Nat} (hp : p) : Resolves P id (.lit p k n f t) (.d (.sl k n f)) none
  | call {f : FuncId} {args : List D} {d : D} (h : ACall P f args d) : Resolves P id (.call f args) (.d d) none
  | mk {z : D} {zc : List Value} {za : Bool} {zs : List Value} {ag : Bool} (hz : ∀ H, RepD H z (mkK za zc)) : Resolves P id (.mk z zc za zs ag) (.mv id) (some (.mp zc za (fun _ => z) (fun _ => false) [] zs ag))
  | ent {p : Prop} {d : D} {b : Nat} {K : List Value} {ob : HObj} (hp : p) : Resolves P id (.ent p d b K ob) (.tu [.d d, .sm id]) (some (.en b K))

theorem Resolves.gfree {P : Program} {id : Nat} {out : Out} {r : AV} {no : Option HObj} (h : Resolves P id out r no) : ∀ ob, no = some ob → ob.gfree = true := by
  intro ob e
  cases h <;> first | (cases e; done) | (cases e; rfl)

theorem wp_of_out {rd : Option Nat} {E : Ctx} {hf : List HObj} {g : G} {w : World} {o : Oper} {a : Act} {out : Out} {id : Nat} {r : AV} {no : Option HObj} (hW : Wd E hf g w) (hdf : ∀ c, o.op ≠ .defer c) (hok : OutOK P o a w g out) (hres : Resolves P id out r no)
    (hid : ∀ ob, no = some ob → hf[id]? = some ob ∧ g.β id = none) (hent : ∀ p d b K ob, out = .ent p d b K ob → hf[b]? = some ob ∧ ∃ zc za val has ps zs ag, ob = .mp zc za val has ps zs ag) {next : Act → World → Prop} {Q' : Exit → Act → World → Prop}
    (hn : ∀ g' v w', (∀ p x, g.H p = some x → g'.H p = some x) → (∀ b x, g.β b = some x → g'.β b = some x) → (∀ b, g'.β b ≠ g.β b → no ≠ none ∧ b = id) → Wd E hf g' w' → Rep g'.H g'.β r v → next (a.put o.dst v) w') :
    Oper.wpr rd P o a w next Q' := by
  cases hres with
  | val hp =>
    obtain ⟨v, h1, h2⟩ := hok hp
    refine wpr_value hdf h1 ?_
    exact hn g v w (fun _ _ h => h) (fun _ _ h => h) (fun b h => absurd rfl h) hW h2
  | box hp =>
    rename_i p cs t
    obtain ⟨vs, h1, h2, h3⟩ := hok hp
    obtain ⟨h4, h5⟩ := hid _ rfl
    refine wpr_value hdf h1 ?_
    refine hn ⟨g.H, g.β.add id w.heap.size 0⟩ _ _ (fun _ _ h => h) (Bl.add_mono h5) (fun b hb => ⟨by simp, ?_⟩) (hW.alloc id 0 h5 (List.getElem?_eq_some_iff.1 h4).1 _ (fun ob hob => ?_)) (.bp (c := 0) (by simp [Bl.add]))
    · by_cases e : b = id
      · exact e
      · exact absurd (by simp [Bl.add, e]) hb
    · rw [h4] at hob; cases hob
      exact ⟨vs, heap_alloc_self _ _, h2, fun i x hx => (h3 i x hx).mono (fun _ _ h => h) (Bl.add_mono h5)⟩
  | row hp =>
    rename_i p k n f t
    obtain ⟨vs, h1, h2, h3, h6, h8, h7⟩ := hok hp
    obtain ⟨h4, h5⟩ := hid _ rfl
    refine wpr_value hdf h1 ?_
    refine hn ⟨g.H, g.β.add id w.heap.size n⟩ _ _ (fun _ _ h => h) (Bl.add_mono h5) (fun b hb => ⟨by simp, ?_⟩) (hW.alloc id n h5 (List.getElem?_eq_some_iff.1 h4).1 _ (fun ob hob => ?_)) (.ow (c := n) (by simp [Bl.add]) (Nat.le_refl _) h3)
    · by_cases e : b = id
      · exact e
      · exact absurd (by simp [Bl.add, e]) hb
    · rw [h4] at hob; cases hob
      exact ⟨vs, heap_alloc_self _ _, h2, Nat.le_refl _, h6, h8, h7⟩
  | lit hp =>
    rename_i p k n f t
    obtain ⟨vs, h1, h2, h3, h6, h8, h7⟩ := hok hp
    refine wpr_value hdf h1 ?_
    have hb := below_alloc0 w (.cells vs t)
    have hm : ∀ p x, g.H p = some x → litMem g.H w vs p = some x := fun p x hp => by
      have := World.block_lt_of_cell? w p (hW.imm p x hp)
      unfold litMem; rw [if_neg (by omega)]; exact hp
    refine hn ⟨litMem g.H w vs, g.β⟩ _ _ hm (fun _ _ h => h) (fun b h => absurd rfl h) (hW.below hb hm (fun p x hp => ?_) (fun p x hp => ?_)) (.d (.sl (fun i j => vs.getD (i * k + j) undef) (Nat.le_refl _) h3 (fun e => by cases e) h6 h8 (fun i j hi hj => ?_) (fun i j x hi hx => (h7 i j x hi hx).mono hm)))
    · unfold litMem at hp
      split at hp
      · exact .inr (by omega)
      · exact .inl hp
    · unfold litMem at hp
      split at hp
      · rename_i e
        split at hp
        · cases hp
        · rename_i hs
          obtain ⟨pb, po, ps⟩ := p
          simp only at e hs hp; subst e
          cases ps with
          | some => simp at hs
          | none => rw [cell_block (heap_alloc_self w _)]; exact hp
      · exact cell?_below hb (hW.imm p x hp)
    · refine ⟨_, rfl, ?_⟩
      rw [add_none]
      show litMem g.H w vs _ = _
      unfold litMem
      simp only [if_true, Nat.zero_add, Option.isSome_none, Bool.false_eq_true, if_false]
      refine getD_some ?_
      rw [h2]
      have h4 : (i + 1) * k ≤ n * k := Nat.mul_le_mul_right _ (by omega)
      rw [Nat.add_mul] at h4
      omega
  | mk hz =>
    rename_i z zc za zs ag
    obtain ⟨h4, h5⟩ := hid _ rfl
    refine wpr_value hdf hok ?_
    refine hn ⟨g.H, g.β.add id w.heap.size 0⟩ _ _ (fun _ _ h => h) (Bl.add_mono h5) (fun b hb => ⟨by simp, ?_⟩) (hW.alloc id 0 h5 (List.getElem?_eq_some_iff.1 h4).1 _ (fun ob hob => ?_)) (.mv (c := 0) (by simp [Bl.add]))
    · by_cases e : b = id
      · exact e
      · exact absurd (by simp [Bl.add, e]) hb
    · rw [h4] at hob; cases hob
      exact ⟨#[], 0, heap_alloc_self _ _, ⟨fun i e h => by simp at h, fun K h => (by cases h), fun K _ => hz _, fun i j e e' h => by simp at h, fun i e h => by simp at h, fun i j e e' h => by simp at h⟩⟩
  | ent hp =>
    rename_i p d b K ob
    obtain ⟨h4, h5⟩ := hid _ rfl
    obtain ⟨h6, zc, za, val, has, ps, zs, ag, rfl⟩ := hent _ _ _ _ _ rfl
    obtain ⟨blk, c, h7, hok'⟩ := hok hp zc za val has ps zs ag rfl
    obtain ⟨es, clock, m1, M⟩ := (hW.obj b _ blk c h6 h7).1
    obtain ⟨v, es', clock', i, e, r1, r2, M', r3, r4, r5⟩ := hok' es clock m1 M
    refine wpr_value hdf r1 ?_
    have hW1 := hW.setMap h6 h7 m1 M' r5
    rw [show hf.set b (.mp zc za val has ps zs ag) = hf by
      obtain ⟨hlt, he⟩ := List.getElem?_eq_some_iff.1 h6
      rw [← he]; exact List.set_getElem_self hlt] at hW1
    have hW2 := hW1.addEn h4 h5 h7 (setBlock_same m1) r3 r4
    refine hn ⟨g.H, g.β.add id blk e.born⟩ _ _ (fun _ _ h => h) (Bl.add_mono h5) (fun b' hb => ⟨by simp, ?_⟩) hW2 (.tu rfl (fun j x hx => ?_))
    · by_cases e' : b' = id
      · exact e'
      · exact absurd (by simp [Bl.add, e']) hb
    · match j, hx with
      | 0, hx => simp at hx; subst hx; exact .d r2
      | 1, hx => simp at hx; subst hx; exact .sm (by simp [Bl.add]; rfl)
      | j + 2, hx => simp at hx
  | call h =>
    obtain ⟨vs, h1, h2, h3⟩ := hok h.1
    refine wpr_enter hdf h1 ((h.2 g.H vs w h2 h3 hW.imm).mono ?_)
    rintro e w' ⟨v, H', rfl, hr, hm, hn', hi, hb⟩
    refine ⟨v, rfl, ?_⟩
    exact hn ⟨H', g.β⟩ v w' hm (fun _ _ h => h) (fun b h => absurd rfl h) (hW.below hb hm hn' hi) (.d hr)

theorem looks_operand {ops : Array Oper} {o : Oper} {t : Tmp} (h : Operand.tmp t ∈ o.op.operands.toList) : t ∈ o.looksAt ops := by
  unfold Oper.looksAt
  rw [List.mem_append]
  exact .inl (by rw [List.mem_filterMap]; exact ⟨_, h, rfl⟩)

theorem apick_ok {g : G} {w : World} {o : Oper} {a : Act} {c x y : Operand} {cv xv yv : AV} (ho : o.op = .pick c x y) (hc : Rep g.H g.β cv (a.eval c)) (hx : Rep g.H g.β xv (a.eval x)) (hy : Rep g.H g.β yv (a.eval y)) :
    OutOK P o a w g (apick cv xv yv) := by
  unfold apick
  split
  · rename_i c' m n e1 e2
    rintro ⟨h1, h2⟩
    have hcv := hc.lit_inv
    cases c' with
    | true =>
      have hm := hx.st_of (h1 rfl)
      rw [e1] at hm
      exact ⟨_, by simp [execOp, ho, hcv, asBool, hm.lit_inv], .d (.v rfl)⟩
    | false =>
      have hm := hy.st_of (h2 rfl)
      rw [e2] at hm
      exact ⟨_, by simp [execOp, ho, hcv, asBool, hm.lit_inv], .d (.v rfl)⟩
  · trivial

/-- Without a guard. -/
theorem yld0 (hT : TOK P T) (hQ : EqOK P Q) {ops : Array Oper} {o : Oper} {st : St} {out : Out} (hg : o.guard = none) (ho : out0 T Q O st o.op = out) {r : AV} {no : Option HObj} (hr : Resolves P st.h.length out r no) : Yld P ops o st.σ st.h r no := by
  have hdf : ∀ c, o.op ≠ .defer c := fun cc e => by
    rw [e] at ho; simp only [out0, pop] at ho; subst ho; cases hr
  refine ⟨hr.gfree, ?_⟩
  intro rd E g a w hf hp hno hW hl next Q' hn
  have he : ∀ x ∈ o.op.operands.toList, Rep g.H g.β (ev st.σ x) (a.eval x) := fun x hx => ev_rep (fun t ht => by subst ht; exact hl t (looks_operand hx))
  refine ⟨fun _ => ?_, fun h => ?_⟩
  · have hent : ∀ p d b K ob, out = .ent p d b K ob → hf[b]? = some ob ∧ ∃ zc za val has ps zs ag, ob = .mp zc za val has ps zs ag := fun p d b K ob e => by
      subst e
      unfold out0 at ho
      split at ho
      · unfold apick at ho; split at ho <;> cases ho
      · obtain ⟨e1, e2, e3⟩ := pop_ent ho
        exact ⟨hp b ob e2 (.inl e1), e3⟩
    refine wp_of_out hW hdf ?_ hr hno hent hn
    rw [← ho]
    unfold out0
    split
    · rename_i c x y hop
      rw [hop] at he
      exact apick_ok hop (he c (by simp [Op.operands])) (he x (by simp [Op.operands])) (he y (by simp [Op.operands]))
    · rw [← pop_dm (h := st.h)]
      exact pop_sound hT hQ (hW.seen.agr hp) he
  · simp [Region.wanted, hg] at h

theorem gof_spec {σ : List AV} {ops : Array Oper} {j : Nat} {want : Bool} {c : Bool} (h : gof σ ops j want = some c) {g : G} {a : Act} (hl : ∀ d, (ops[j]?).bind (·.dst) = some d → Rep g.H g.β (σ.getD d .junk) (a.tmps.getD d undef)) :
    (yielded ops a.tmps j == some want) = c := by
  unfold gof at h
  split at h
  · rename_i d hd
    have hr := hl d hd
    have key : ∀ {b : Bool}, a.tmps.getD d undef = .bool b → (yielded ops a.tmps j == some want) = (bif want then b else !b) := by
      intro b hb
      have : a.tmps[d]? = some (.bool b) := by
        rw [Array.getD_eq_getD_getElem?] at hb
        cases hh : a.tmps[d]? with
        | none => rw [hh] at hb; simp [undef] at hb
        | some u => rw [hh] at hb; simp at hb; rw [hb]
      unfold yielded
      rw [hd]
      simp only [Option.bind_some, this]
      cases want <;> cases b <;> rfl
    split at h
    · rename_i b hb
      simp only [Option.some.injEq] at h
      rw [hb] at hr
      rw [key hr.lit_inv, h]
    · rename_i q b hb
      simp only [Option.some.injEq] at h
      rw [hb] at hr
      cases hr with
      | opt h1 h2 =>
        cases q with
        | true => rw [key (h1 rfl).lit_inv, ← h]; rfl
        | false =>
          have hu := h2 rfl
          have : yielded ops a.tmps j = none := by
            unfold yielded
            rw [hd]
            rw [Array.getD_eq_getD_getElem?] at hu
            cases hh : a.tmps[d]? with
            | none => simp [hh]
            | some u => rw [hh] at hu; simp at hu; subst hu; simp [hh, undef]
          rw [this, ← h]
          cases want <;> rfl
    · cases h
  · cases h

/-- Under a guard. -/
theorem yldG (hT : TOK P T) (hQ : EqOK P Q) {ops : Array Oper} {o : Oper} {st : St} {j : Nat} {want : Bool} {c : Bool} {q : Prop} {out : Out} (hg : o.guard = some (j, want)) (hc : gof st.σ ops j want = some c)
    (ho : outG T Q O st o.op = (q, out)) (hq : c = true → q) {r : AV} {no : Option HObj} (hr : c = true → Resolves P st.h.length out r no) (hgf : ∀ ob, no = some ob → ob.gfree = true) : Yld P ops o st.σ st.h (.opt c r) no := by
  refine ⟨hgf, ?_⟩
  intro rd E g a w hf hp hno hW hl next Q' hn
  have hlook : ∀ d, (ops[j]?).bind (·.dst) = some d → Rep g.H g.β (st.σ.getD d .junk) (a.tmps.getD d undef) := fun d hd => hl d (by
    unfold Oper.looksAt
    rw [List.mem_append]
    exact .inr (by rw [hg]; simp [hd]))
  have hy := gof_spec hc (g := g) (a := a) hlook
  have hw : Region.wanted o (yielded ops a.tmps) = c := by
    simp only [Region.wanted, hg]
    exact hy
  have hev : ∀ x ∈ o.op.operands.toList, Rep g.H g.β (ev st.σ x) (a.eval x) := fun x hx => ev_rep (fun t ht => by subst ht; exact hl t (looks_operand hx))
  refine ⟨fun h => ?_, fun h => ?_⟩
  · rw [hw] at h
    have hq' := hq h
    have hdf : ∀ cc, o.op ≠ .defer cc := fun cc e => by
      have hr' := hr h
      rw [e] at ho; simp only [outG, pop, Prod.mk.injEq] at ho; rw [← ho.2] at hr'; cases hr'
    have hent : ∀ p d b K ob, out = .ent p d b K ob → hf[b]? = some ob ∧ ∃ zc za val has ps zs ag, ob = .mp zc za val has ps zs ag := fun p d b K ob e => by
      subst e
      unfold outG at ho
      split at ho
      · simp only [Prod.mk.injEq] at ho
        have ho := ho.2
        unfold apick at ho; split at ho <;> cases ho
      · simp only [Prod.mk.injEq] at ho
        obtain ⟨e1, e2, e3⟩ := pop_ent ho.2
        exact ⟨hp b ob e2 (.inl e1), e3⟩
    refine wp_of_out hW hdf ?_ (hr h) hno hent (fun g' v w' k1 k2 k3 k4 k5 => hn g' v w' k1 k2 k3 k4 (.opt (fun _ => k5) (fun e => by rw [h] at e; cases e)))
    unfold outG at ho
    split at ho
    · rename_i cc x y hop
      simp only [Prod.mk.injEq] at ho
      obtain ⟨rfl, rfl⟩ := ho
      rw [hop] at hev
      exact apick_ok hop ((hev cc (by simp [Op.operands])).st_of hq') (hev x (by simp [Op.operands])) (hev y (by simp [Op.operands]))
    · simp only [Prod.mk.injEq] at ho
      obtain ⟨rfl, rfl⟩ := ho
      rw [← pop_dm (h := st.h)]
      refine pop_sound hT hQ (hW.seen.agr hp) (fun x hx => (hev x hx).st_of ?_)
      unfold qs at hq'
      rw [List.all_eq_true] at hq'
      exact hq' x hx
  · rw [hw] at h
    exact hn g undef w (fun _ _ h => h) (fun _ _ h => h) (fun b hb => absurd rfl hb) hW (.opt (fun e => by rw [h] at e; cases e) (fun _ => rfl))

end
end Go.Jo
