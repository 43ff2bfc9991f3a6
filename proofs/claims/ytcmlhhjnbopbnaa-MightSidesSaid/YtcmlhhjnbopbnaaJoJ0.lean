/- The abstract values of a walk: data as trees, boxes by number; what it is that a machine value represents one. Over any program. -/
import Derived.WalkKit
namespace Go.Jo
open Go.RowKit
set_option autoImplicit false

/-- What memory is known to hold for good. -/
abbrev Mem := Addr → Option Value
/-- A box's block, and (of a row) its capacity. -/
abbrev Bl := Nat → Option (Nat × Nat)

/-- Data: a plain cell; a slice (cells an element, length, elements); an aggregate; a tuple; an interface value. -/
inductive D where
  | v (x : Value)
  | sl (k n : Nat) (f : Nat → List D)
  | ag (cs : List D)
  | tu (vs : List D)
  | ic (t : TypeId) (x : D)

abbrev D.int (k : IntKind) (n : Int) : D := .v (.int k n)
abbrev D.bool (b : Bool) : D := .v (.bool b)
abbrev D.str (s : ByteArray) : D := .v (.string s)

inductive RepD (H : Mem) : D → Value → Prop
  | v {x : Value} (h : x.oneCell' = true) : RepD H (.v x) x
  | sl {k n : Nat} {f : Nat → List D} {A : Option Addr} {c : Nat} (val : Nat → Nat → Value) (hc : n ≤ c) (hm : c ≤ maxLen) (hz : A = none → c = 0)
      (hl : ∀ i, i < n → (f i).length = k) (h1 : ∀ i j, i < n → j < k → (val i j).oneCell' = true)
      (hH : ∀ i j, i < n → j < k → ∃ a, A = some a ∧ H (a.add (i * k + j)) = some (val i j))
      (hr : ∀ i j x, i < n → (f i)[j]? = some x → RepD H x (val i j)) : RepD H (.sl k n f) (.slice A n c)
  | ag {cs : List D} {vs : Array Value} (hs : vs.size = cs.length) (h : ∀ i x, cs[i]? = some x → RepD H x (vs.getD i undef)) : RepD H (.ag cs) (.agg vs)
  | tu {cs : List D} {vs : Array Value} (hs : vs.size = cs.length) (h : ∀ i x, cs[i]? = some x → RepD H x (vs.getD i undef)) : RepD H (.tu cs) (.tuple vs)
  | ic {t : TypeId} {x : D} {v : Value} (h : RepD H x v) : RepD H (.ic t x) (.iface t v)

theorem RepD.mono {H H' : Mem} (hH : ∀ p x, H p = some x → H' p = some x) {x : D} {v : Value} (h : RepD H x v) : RepD H' x v := by
  induction h with
  | v h => exact .v h
  | sl val hc hm hz hl h1 hHH hr ih => exact .sl val hc hm hz hl h1 (fun i j hi hj => by obtain ⟨a, ha, h⟩ := hHH i j hi hj; exact ⟨a, ha, hH _ _ h⟩) ih
  | ag hs h ih => exact .ag hs ih
  | tu hs h ih => exact .tu hs ih
  | ic h ih => exact .ic ih

inductive AV where
  | d (x : D)
  | ag (cs : List AV)
  | tu (vs : List AV)
  | rp (cs : List D)
  | bp (b off : Nat)
  | ow (b n k : Nat)
  | ep (b k i off : Nat)
  | fn (f : Fn) (first cap : List AV)
  | opt (c : Bool) (x : AV)
  | yl (b : Nat)
  | mv (b : Nat)
  | sm (b : Nat)
  | junk

inductive Rep (H : Mem) (β : Bl) : AV → Value → Prop
  | d {x : D} {v : Value} (h : RepD H x v) : Rep H β (.d x) v
  | ag {cs : List AV} {vs : Array Value} (hs : vs.size = cs.length) (h : ∀ i x, cs[i]? = some x → Rep H β x (vs.getD i undef)) : Rep H β (.ag cs) (.agg vs)
  | tu {cs : List AV} {vs : Array Value} (hs : vs.size = cs.length) (h : ∀ i x, cs[i]? = some x → Rep H β x (vs.getD i undef)) : Rep H β (.tu cs) (.tuple vs)
  | rp {cs : List D} {a : Addr} (val : Nat → Value) (hH : ∀ j, j < cs.length → H (a.add j) = some (val j)) (hr : ∀ (j : Nat) (x : D), cs[j]? = some x → RepD H x (val j)) : Rep H β (.rp cs) (.pointer (some a))
  | bp {b off blk c : Nat} (h : β b = some (blk, c)) : Rep H β (.bp b off) (.pointer (some ⟨blk, off, none⟩))
  | ow {b n k blk c : Nat} (h : β b = some (blk, c)) (hc : n ≤ c) (hm : c ≤ maxLen) : Rep H β (.ow b n k) (.slice (some ⟨blk, 0, none⟩) n c)
  | owNil {b k : Nat} : Rep H β (.ow b 0 k) (.slice none 0 0)
  | ep {b k i off blk c : Nat} (h : β b = some (blk, c)) : Rep H β (.ep b k i off) (.pointer (some ⟨blk, i * k + off, none⟩))
  | fn {f : Fn} {first cap : List AV} {vs us : Array Value} (hs : vs.size = first.length) (h : ∀ i x, first[i]? = some x → Rep H β x (vs.getD i undef))
      (hs' : us.size = cap.length) (h' : ∀ i x, cap[i]? = some x → Rep H β x (us.getD i undef)) : Rep H β (.fn f first cap) (.func f vs us)
  | opt {c : Bool} {x : AV} {v : Value} (h : c = true → Rep H β x v) (h' : c = false → v = undef) : Rep H β (.opt c x) v
  | yl {b blk c : Nat} (h : β b = some (blk, c)) : Rep H β (.yl b) (.func (.yield blk) #[] #[])
  | mv {b blk c : Nat} (h : β b = some (blk, c)) : Rep H β (.mv b) (.map (some blk))
  | sm {b blk c : Nat} (h : β b = some (blk, c)) : Rep H β (.sm b) (.int .i64 c)
  | junk {v : Value} : Rep H β .junk v

theorem Rep.mono {H H' : Mem} {β β' : Bl} (hH : ∀ p x, H p = some x → H' p = some x) (hβ : ∀ b x, β b = some x → β' b = some x) {x : AV} {v : Value} (h : Rep H β x v) : Rep H' β' x v := by
  induction h with
  | d h => exact .d (h.mono hH)
  | ag hs h ih => exact .ag hs ih
  | tu hs h ih => exact .tu hs ih
  | rp val h hr => exact .rp val (fun j hj => hH _ _ (h j hj)) (fun j x hx => (hr j x hx).mono hH)
  | bp h => exact .bp (hβ _ _ h)
  | ow h hc hm => exact .ow (hβ _ _ h) hc hm
  | owNil => exact .owNil
  | ep h => exact .ep (hβ _ _ h)
  | fn hs h hs' h' ih ih' => exact .fn hs ih hs' ih'
  | opt h h' ih => exact .opt ih h'
  | yl h => exact .yl (hβ _ _ h)
  | mv h => exact .mv (hβ _ _ h)
  | sm h => exact .sm (hβ _ _ h)
  | junk => exact .junk

/-- Does a value speak of boxes below m alone? -/
def AV.ok (m : Nat) : AV → Bool
  | .d _ => true
  | .ag cs => okL m cs
  | .tu cs => okL m cs
  | .rp _ => true
  | .bp b _ => decide (b < m)
  | .ow b _ _ => decide (b < m)
  | .ep b _ _ _ => decide (b < m)
  | .fn _ first cap => okL m first && okL m cap
  | .opt _ x => x.ok m
  | .yl b => decide (b < m)
  | .mv b => decide (b < m)
  | .sm b => decide (b < m)
  | .junk => true
where okL (m : Nat) : List AV → Bool
  | [] => true
  | x :: l => x.ok m && okL m l

theorem AV.okL_at {m : Nat} : ∀ {l : List AV}, AV.ok.okL m l = true → ∀ (i : Nat) (x : AV), l[i]? = some x → x.ok m = true
  | [], _, i, x, h => by simp at h
  | y :: l, hl, i, x, h => by
    simp only [AV.ok.okL, Bool.and_eq_true] at hl
    cases i with
    | zero => simp at h; subst h; exact hl.1
    | succ i => exact AV.okL_at hl.2 i x (by simpa using h)

def Bl.cut (β : Bl) (m : Nat) : Bl := fun b => if b < m then β b else none

theorem Rep.cut {H : Mem} {β : Bl} {x : AV} {v : Value} (m : Nat) (h : Rep H β x v) : x.ok m = true → Rep H (β.cut m) x v := by
  induction h with
  | d h => exact fun _ => .d h
  | ag hs h ih => exact fun ho => .ag hs (fun i x hx => ih i x hx (AV.okL_at ho i x hx))
  | tu hs h ih => exact fun ho => .tu hs (fun i x hx => ih i x hx (AV.okL_at ho i x hx))
  | rp val h hr => exact fun _ => .rp val h hr
  | bp h => intro ho; simp only [AV.ok, decide_eq_true_eq] at ho; exact .bp ((if_pos ho).trans h)
  | ow h hc hm => intro ho; simp only [AV.ok, decide_eq_true_eq] at ho; exact .ow ((if_pos ho).trans h) hc hm
  | owNil => exact fun _ => .owNil
  | ep h => intro ho; simp only [AV.ok, decide_eq_true_eq] at ho; exact .ep ((if_pos ho).trans h)
  | fn hs h hs' h' ih ih' => intro ho; simp only [AV.ok, Bool.and_eq_true] at ho; exact .fn hs (fun i x hx => ih i x hx (AV.okL_at ho.1 i x hx)) hs' (fun i x hx => ih' i x hx (AV.okL_at ho.2 i x hx))
  | opt h h' ih => exact fun ho => .opt (fun hc => ih hc ho) h'
  | yl h => intro ho; simp only [AV.ok, decide_eq_true_eq] at ho; exact .yl ((if_pos ho).trans h)
  | mv h => intro ho; simp only [AV.ok, decide_eq_true_eq] at ho; exact .mv ((if_pos ho).trans h)
  | sm h => intro ho; simp only [AV.ok, decide_eq_true_eq] at ho; exact .sm ((if_pos ho).trans h)
  | junk => exact fun _ => .junk

inductive HObj where
  | box (wr : Bool) (cs : List AV) (t : TypeId)
  | row (k n : Nat) (f : Nat → List D) (t : TypeId)
  | ghost (xs : List AV) (vs : Array Value) (ds : List Deferred)
  | lp (s : LoopState) (p : Option Code) (L : Loop) (xs : List AV)
  | df
  | mp (zc : List Value) (za : Bool) (val : List Value → D) (has : List Value → Bool) (ps : List (List Value)) (zs : List Value) (ag : Bool)
  | en (b : Nat) (K : List Value)
  | mx (es : Array MapEntry) (clock : Nat) (zc : List Value) (za : Bool) (val : List Value → D) (has : List Value → Bool) (zs : List Value) (ag : Bool)
  | it (b since : Nat) (seen : Array Nat) (stepped : Nat)
  | dead

def HObj.isMp : HObj → Bool
  | .mp _ _ _ _ _ _ _ => true
  | .mx _ _ _ _ _ _ _ _ => true
  | _ => false
def HObj.isEn : HObj → Bool
  | .en _ _ => true
  | _ => false

/-- Cells of the kinds of these. -/
def likeV : List Value → List Value → Bool
  | [], [] => true
  | .int k _ :: zs, .int k' _ :: xs => decide (k = k') && likeV zs xs
  | .bool _ :: zs, .bool _ :: xs => likeV zs xs
  | .string _ :: zs, .string _ :: xs => likeV zs xs
  | _, _ => false

/-- '==' of cells. -/
def eqV : List Value → List Value → Option Bool
  | [], [] => some true
  | .int k a :: xs, .int k' b :: ys => if k = k' then (eqV xs ys).map ((a == b) && ·) else none
  | .bool a :: xs, .bool b :: ys => (eqV xs ys).map ((a == b) && ·)
  | .string a :: xs, .string b :: ys => (eqV xs ys).map ((a == b) && ·)
  | _, _ => none

/-- A key out of its cells. -/
def mkK (ag : Bool) (K : List Value) : Value := if ag = true then .agg K.toArray else K.headD undef

/-- What a map's entries hold: of each key what it looks up to; what may be there besides has the zero. -/
structure MapOK (H : Mem) (zc : List Value) (za : Bool) (val : List Value → D) (has : List Value → Bool) (ps : List (List Value)) (zs : List Value) (ag : Bool) (es : Array MapEntry) (clock : Nat) : Prop where
  at_ : ∀ (i : Nat) (e : MapEntry), es[i]? = some e → ∃ K, e.key = mkK ag K ∧ RepD H (val K) e.val ∧ (has K = false → K ∈ ps) ∧ likeV zs K = true
  all : ∀ K, has K = true → ∃ (i : Nat) (e : MapEntry), es[i]? = some e ∧ e.key = mkK ag K ∧ likeV zs K = true
  zero : ∀ K, has K = false → RepD H (val K) (mkK za zc)
  keys : ∀ (i j : Nat) (e e' : MapEntry), es[i]? = some e → es[j]? = some e' → e.key = e'.key → i = j
  lt : ∀ (i : Nat) (e : MapEntry), es[i]? = some e → e.born < clock
  born : ∀ (i j : Nat) (e e' : MapEntry), es[i]? = some e → es[j]? = some e' → e.born = e'.born → i = j

/-- Not the slots of one who waits. -/
def HObj.gfree : HObj → Bool
  | .ghost _ _ _ => false
  | _ => true

def ObjRep (H : Mem) (β : Bl) (w : World) (blk c : Nat) : HObj → Prop
  | .box _ cs t => ∃ vs : Array Value, w.heap[blk]? = some (.cells vs t (0, 0)) ∧ vs.size = cs.length ∧ ∀ i x, cs[i]? = some x → Rep H β x (vs.getD i undef)
  | .row k n f t => ∃ vs : Array Value, w.heap[blk]? = some (.cells vs t (0, 0)) ∧ vs.size = c * k ∧ n ≤ c ∧ (∀ i, i < n → (f i).length = k) ∧ (∀ i j, i < n → j < k → (vs.getD (i * k + j) undef).oneCell' = true) ∧
      ∀ i j x, i < n → (f i)[j]? = some x → RepD H x (vs.getD (i * k + j) undef)
  | .ghost _ _ _ => True
  | .lp s p L xs => w.heap[blk]? = some (.loop { L with state := s, pending := p }) ∧ L.tmps.size = xs.length ∧ ∀ i x, xs[i]? = some x → Rep H β x (L.tmps.getD i undef)
  | .df => w.heap[blk]? = some (.deferred (some []))
  | .mp zc za val has ps zs ag => ∃ es clock, w.heap[blk]? = some (.map es clock) ∧ MapOK H zc za val has ps zs ag es clock
  | .mx es clock zc za val has zs ag => w.heap[blk]? = some (.map es clock) ∧ MapOK H zc za val has [] zs ag es clock
  | .it b since seen stepped => ∃ mb cc, β b = some (mb, cc) ∧ w.heap[blk]? = some (.mapIter (some mb) since seen stepped)
  | .en b K => ∃ (es : Array MapEntry) (clock cc i : Nat) (e : MapEntry) (ag : Bool), β b = some (blk, cc) ∧ w.heap[blk]? = some (.map es clock) ∧ es[i]? = some e ∧ e.born = c ∧ e.key = mkK ag K
  | .dead => True

theorem MapOK.mono {H H' : Mem} (hH : ∀ p x, H p = some x → H' p = some x) {zc : List Value} {za : Bool} {val : List Value → D} {has : List Value → Bool} {ps : List (List Value)} {zs : List Value} {ag : Bool} {es : Array MapEntry} {clock : Nat} (h : MapOK H zc za val has ps zs ag es clock) : MapOK H' zc za val has ps zs ag es clock :=
  ⟨fun i e he => by obtain ⟨K, h1, h2, h3⟩ := h.at_ i e he; exact ⟨K, h1, h2.mono hH, h3⟩, h.all, fun K hK => (h.zero K hK).mono hH, h.keys, h.lt, h.born⟩

theorem ObjRep.mono {H H' : Mem} {β β' : Bl} (hH : ∀ p x, H p = some x → H' p = some x) (hβ : ∀ b x, β b = some x → β' b = some x) {w w' : World} {blk c : Nat} {o : HObj}
    (hw : w'.heap[blk]? = w.heap[blk]?) (h : ObjRep H β w blk c o) : ObjRep H' β' w' blk c o := by
  cases o with
  | box wr cs t => obtain ⟨vs, h1, h2, h3⟩ := h; exact ⟨vs, hw.trans h1, h2, fun i x hx => (h3 i x hx).mono hH hβ⟩
  | row k n f t => obtain ⟨vs, h1, h2, h3, h4, h6, h5⟩ := h; exact ⟨vs, hw.trans h1, h2, h3, h4, h6, fun i j x hi hx => (h5 i j x hi hx).mono hH⟩
  | ghost xs vs ds => trivial
  | lp s p L xs => obtain ⟨h1, h2, h3⟩ := h; exact ⟨hw.trans h1, h2, fun i x hx => (h3 i x hx).mono hH hβ⟩
  | df => exact hw.trans h
  | mp zc za val has ps zs ag => obtain ⟨es, clock, h1, h2⟩ := h; exact ⟨es, clock, hw.trans h1, h2.mono hH⟩
  | mx es clock zc za val has zs ag => obtain ⟨h1, h2⟩ := h; exact ⟨hw.trans h1, h2.mono hH⟩
  | it b since seen stepped => obtain ⟨mb, cc, h1, h2⟩ := h; exact ⟨mb, cc, hβ _ _ h1, hw.trans h2⟩
  | en b K => obtain ⟨es, clock, cc, i, e, ag, h0, h1, h2⟩ := h; exact ⟨es, clock, cc, i, e, ag, hβ _ _ h0, hw.trans h1, h2⟩
  | dead => trivial

/-- A state: the slots, the boxes. -/
structure St where
  σ : List AV
  h : List HObj

structure G where
  H : Mem
  β : Bl

/-- Where the function was entered. -/
structure Ctx where
  w0 : World
  H0 : Mem
  M : Nat → Prop
  nm : Bool

structure Fr (E : Ctx) (H : Mem) (w : World) : Prop where
  mono : ∀ p x, E.H0 p = some x → H p = some x
  new : ∀ p x, H p = some x → E.H0 p = some x ∨ E.w0.heap.size ≤ p.block
  frame : ∀ k, k < E.w0.heap.size → ¬ E.M k → w.heap[k]? = E.w0.heap[k]?
  size : E.w0.heap.size ≤ w.heap.size
  os : w.os = E.w0.os
  tape : w.tape = E.w0.tape
  output : w.output = E.w0.output

def HObj.wr : HObj → Bool
  | .box wr _ _ => wr
  | .row .. => true
  | .lp _ _ _ _ => true
  | .df => true
  | .mp _ _ _ _ _ _ _ => true
  | .mx _ _ _ _ _ _ _ _ => true
  | .it _ _ _ _ => true
  | .ghost _ _ _ => false
  | .en _ _ => false
  | .dead => false

/-- A stamp's place. -/
def enAt (h : List HObj) (i : Nat) : Prop := ∃ o, h[i]? = some o ∧ o.isEn = true

theorem enAt.app {h : List HObj} {i : Nat} (k : enAt h i) (l : List HObj) : enAt (h ++ l) i := by
  obtain ⟨o, h1, h2⟩ := k
  exact ⟨o, by rw [List.getElem?_append_left (List.getElem?_eq_some_iff.1 h1).1]; exact h1, h2⟩

theorem enAt.set {h : List HObj} {i b : Nat} {o o' : HObj} (k : enAt h i) (ho : h[b]? = some o) (hne : o.isEn = false) : enAt (h.set b o') i := by
  obtain ⟨x, h1, h2⟩ := k
  refine ⟨x, ?_, h2⟩
  rw [List.getElem?_set_ne (fun e => by subst e; rw [ho] at h1; cases h1; rw [hne] at h2; cases h2)]
  exact h1

/-- Marks: of blocks of deferred calls that hold none. -/
def Mks (h : List HObj) (β : Bl) (l : List Deferred) : Prop := ∀ d ∈ l, ∃ i blk c, d = { target := .collected blk, args := #[] } ∧ h[i]? = some .df ∧ β i = some (blk, c)

theorem Mks.mono {h h' : List HObj} {β β' : Bl} {l : List Deferred} (k : Mks h β l) (hh : ∀ i : Nat, h[i]? = some HObj.df → h'[i]? = some HObj.df) (hβ : ∀ b x, β b = some x → β' b = some x) : Mks h' β' l := fun d hd => by
  obtain ⟨i, blk, c, h1, h2, h3⟩ := k d hd
  exact ⟨i, blk, c, h1, hh i h2, hβ _ _ h3⟩

/-- The activation's deferred calls: marks alone. -/
def Dfr (E : Ctx) (h : List HObj) (β : Bl) (l : List Deferred) : Prop := l.Nodup ∧ (E.nm = true → l = []) ∧ Mks h β l

theorem Dfr.mono {E : Ctx} {h h' : List HObj} {β β' : Bl} {l : List Deferred} (k : Dfr E h β l) (hh : ∀ i : Nat, h[i]? = some HObj.df → h'[i]? = some HObj.df) (hβ : ∀ b x, β b = some x → β' b = some x) : Dfr E h' β' l := ⟨k.1, k.2.1, k.2.2.mono hh hβ⟩

/-- What holds of a world alone. -/
structure Wd (E : Ctx) (h : List HObj) (g : G) (w : World) : Prop where
  imm : ∀ p x, g.H p = some x → w.cell? p = some x
  obj : ∀ i o b c, h[i]? = some o → g.β i = some (b, c) → ObjRep g.H g.β w b c o ∧ (o.wr = true → E.w0.heap.size ≤ b ∨ E.M b)
  lt : ∀ i b c, g.β i = some (b, c) → i < h.length ∧ b < w.heap.size
  sep : ∀ i b c p x, g.β i = some (b, c) → g.H p = some x → p.block ≠ b
  inj : ∀ i j b c c', g.β i = some (b, c) → g.β j = some (b, c') → i = j ∨ enAt h i ∨ enAt h j
  fr : Fr E g.H w
  gh : ∀ (i : Nat) (xs : List AV) (vs : Array Value) (ds : List Deferred), h[i]? = some (HObj.ghost xs vs ds) → (∀ j x, xs[j]? = some x → Rep g.H g.β x (vs.getD j undef)) ∧ Mks h g.β ds

structure Sl (σ : List AV) (g : G) (a : Act) : Prop where
  size : a.tmps.size = σ.length
  at_ : ∀ i x, σ[i]? = some x → Rep g.H g.β x (a.tmps.getD i undef)

structure Rel (E : Ctx) (st : St) (g : G) (a : Act) (w : World) : Prop where
  sl : Sl st.σ g a
  wd : Wd E st.h g w
  df : Dfr E st.h g.β a.defers

theorem Sl.mono {σ : List AV} {g g' : G} {a : Act} (h : Sl σ g a) (hH : ∀ p x, g.H p = some x → g'.H p = some x) (hβ : ∀ b x, g.β b = some x → g'.β b = some x) : Sl σ g' a :=
  ⟨h.size, fun i x hx => (h.at_ i x hx).mono hH hβ⟩

theorem Sl.put {σ : List AV} {g : G} {a : Act} (h : Sl σ g a) (d : Tmp) {x : AV} {v : Value} (hx : Rep g.H g.β x v) : Sl (σ.set d x) g (a.put (some d) v) := by
  refine ⟨by simp [Act.put, h.size], fun i y hy => ?_⟩
  simp only [Act.put]
  rw [List.getElem?_set] at hy
  by_cases e : d = i
  · subst e
    simp only [if_true] at hy
    split at hy
    · rename_i hlt
      simp only [Option.some.injEq] at hy; subst hy
      rw [show (a.tmps.setIfInBounds d v).getD d undef = v from by simp [Array.getD, h.size, hlt]]
      exact hx
    · cases hy
  · rw [if_neg e] at hy
    have := h.at_ i y hy
    rwa [show (a.tmps.setIfInBounds d v).getD i undef = a.tmps.getD i undef from by simp only [Array.getD_eq_getD_getElem?, Array.getElem?_setIfInBounds, if_neg e]]

def putS (σ : List AV) (d : Option Tmp) (x : AV) : List AV :=
  match d with
  | some d => σ.set d x
  | none => σ

theorem Sl.putS {σ : List AV} {g : G} {a : Act} (h : Sl σ g a) (d : Option Tmp) {x : AV} {v : Value} (hx : Rep g.H g.β x v) : Sl (Jo.putS σ d x) g (a.put d v) := by
  cases d with
  | none => exact h
  | some d => exact h.put d hx

theorem Fr.refl (w : World) (H : Mem) (M : Nat → Prop) (nm : Bool) : Fr ⟨w, H, M, nm⟩ H w := ⟨fun _ _ h => h, fun _ _ h => .inl h, fun _ _ _ => rfl, Nat.le_refl _, rfl, rfl, rfl⟩

/-- The world moves on by a step that leaves alone all that there was. -/
theorem Wd.below {E : Ctx} {h : List HObj} {g : G} {w w' : World} (r : Wd E h g w) (hb : Below w.heap.size w w') {H' : Mem} (hm : ∀ p x, g.H p = some x → H' p = some x)
    (hn : ∀ p x, H' p = some x → g.H p = some x ∨ w.heap.size ≤ p.block) (hi : ∀ p x, H' p = some x → w'.cell? p = some x) : Wd E h ⟨H', g.β⟩ w' where
  imm := hi
  obj i o b c ho hβ := by
    obtain ⟨h1, h2⟩ := r.obj i o b c ho hβ
    exact ⟨h1.mono hm (fun _ _ h => h) (hb.block b (r.lt i b c hβ).2), h2⟩
  lt i b c hβ := ⟨(r.lt i b c hβ).1, Nat.lt_of_lt_of_le (r.lt i b c hβ).2 hb.size⟩
  sep i b c p x hβ hp := by
    rcases hn p x hp with h | h
    · exact r.sep i b c p x hβ h
    · intro e; have := (r.lt i b c hβ).2; omega
  inj := r.inj
  fr := ⟨fun p x hp => hm p x (r.fr.mono p x hp), fun p x hp => (hn p x hp).elim (fun h => r.fr.new p x h) (fun h => .inr (Nat.le_trans r.fr.size h)),
    fun k hk hM => (hb.block k (Nat.lt_of_lt_of_le hk r.fr.size)).trans (r.fr.frame k hk hM), Nat.le_trans r.fr.size hb.size, hb.os.trans r.fr.os, hb.tape.trans r.fr.tape, hb.output.trans r.fr.output⟩
  gh i xs vs ds hi := ⟨fun j x hx => ((r.gh i xs vs ds hi).1 j x hx).mono hm (fun _ _ h => h), (r.gh i xs vs ds hi).2⟩

theorem cell?_below {w w' : World} (hb : Below w.heap.size w w') {p : Addr} {x : Value} (h : w.cell? p = some x) : w'.cell? p = some x :=
  (hb.cell (World.block_lt_of_cell? w p h)).trans h

theorem Wd.below_same {E : Ctx} {h : List HObj} {g : G} {w w' : World} (r : Wd E h g w) (hb : Below w.heap.size w w') : Wd E h g w' :=
  r.below hb (fun _ _ h => h) (fun _ _ h => .inl h) (fun p x hp => cell?_below hb (r.imm p x hp))

/-- A new object. -/
def Bl.add (β : Bl) (i b c : Nat) : Bl := fun j => if j = i then some (b, c) else β j

theorem Bl.add_mono {β : Bl} {i b c : Nat} (hi : β i = none) : ∀ j x, β j = some x → (β.add i b c) j = some x := by
  intro j x hj
  unfold Bl.add
  split
  · rename_i e; subst e; rw [hi] at hj; cases hj
  · exact hj

theorem Bl.add_cases {β : Bl} {id b c i : Nat} {x : Nat × Nat} (h : β.add id b c i = some x) : (i = id ∧ x = (b, c)) ∨ (i ≠ id ∧ β i = some x) := by
  unfold Bl.add at h
  by_cases e : i = id
  · rw [if_pos e] at h; exact .inl ⟨e, by simpa using h.symm⟩
  · rw [if_neg e] at h; exact .inr ⟨e, h⟩

theorem below_alloc0 (w : World) (o : Obj) : Below w.heap.size w (w.alloc o) := (Below.refl _ _).alloc (Nat.le_refl _) o

theorem heap_alloc_self (w : World) (o : Obj) : (w.alloc o).heap[w.heap.size]? = some o := by
  show (w.heap.push o)[w.heap.size]? = some o
  exact Array.getElem?_push_size

theorem Wd.alloc {E : Ctx} {h : List HObj} {g : G} {w : World} (r : Wd E h g w) (id c : Nat) (hid : g.β id = none) (hlt : id < h.length) (o : Obj)
    (hob : ∀ ob, h[id]? = some ob → ObjRep g.H (g.β.add id w.heap.size c) (w.alloc o) w.heap.size c ob) : Wd E h ⟨g.H, g.β.add id w.heap.size c⟩ (w.alloc o) where
  imm p x hp := cell?_below (below_alloc0 w o) (r.imm p x hp)
  obj i ob b c' ho hβ := by
    rcases Bl.add_cases hβ with ⟨rfl, e⟩ | ⟨_, hβ⟩
    · cases e; exact ⟨hob ob ho, fun _ => .inl r.fr.size⟩
    · obtain ⟨h1, h2⟩ := r.obj i ob b c' ho hβ
      exact ⟨h1.mono (fun _ _ h => h) (Bl.add_mono hid) ((below_alloc0 w o).block b (r.lt i b c' hβ).2), h2⟩
  lt i b c' hβ := by
    rcases Bl.add_cases hβ with ⟨rfl, e⟩ | ⟨_, hβ⟩
    · cases e; exact ⟨hlt, by rw [World.size_alloc]; omega⟩
    · exact ⟨(r.lt i b c' hβ).1, by have := (r.lt i b c' hβ).2; rw [World.size_alloc]; omega⟩
  sep i b c' p x hβ hp := by
    rcases Bl.add_cases hβ with ⟨rfl, e⟩ | ⟨_, hβ⟩
    · cases e; intro e; have := World.block_lt_of_cell? w p (r.imm p x hp); omega
    · exact r.sep i b c' p x hβ hp
  inj i j b c1 c2 h1 h2 := by
    rcases Bl.add_cases h1 with ⟨e1, f1⟩ | ⟨_, h1⟩ <;> rcases Bl.add_cases h2 with ⟨e2, f2⟩ | ⟨_, h2⟩
    · exact .inl (by rw [e1, e2])
    · cases f1; have := (r.lt j _ _ h2).2; omega
    · cases f2; have := (r.lt i _ _ h1).2; omega
    · exact r.inj i j b c1 c2 h1 h2
  fr := ⟨r.fr.mono, r.fr.new, fun k hk hM => ((below_alloc0 w o).block k (Nat.lt_of_lt_of_le hk r.fr.size)).trans (r.fr.frame k hk hM), by have := r.fr.size; rw [World.size_alloc]; omega, r.fr.os, r.fr.tape, r.fr.output⟩
  gh i xs vs ds hi := ⟨fun j x hx => ((r.gh i xs vs ds hi).1 j x hx).mono (fun _ _ h => h) (Bl.add_mono hid), (r.gh i xs vs ds hi).2.mono (fun _ h => h) (Bl.add_mono hid)⟩

/-- More objects may be spoken of, none of which is there yet. -/
theorem Wd.more {E : Ctx} {h : List HObj} {g : G} {w : World} (r : Wd E h g w) (h' : List HObj) (hf : ∀ o ∈ h', o.gfree = true) : Wd E (h ++ h') g w where
  imm := r.imm
  obj i o b c ho hβ := r.obj i o b c (by rwa [List.getElem?_append_left (r.lt i b c hβ).1] at ho) hβ
  lt i b c hβ := ⟨by have := (r.lt i b c hβ).1; simp; omega, (r.lt i b c hβ).2⟩
  sep := r.sep
  inj i j b c c' h1 h2 := (r.inj i j b c c' h1 h2).imp id (Or.imp (fun k => k.app _) (fun k => k.app _))
  fr := r.fr
  gh i xs vs ds hi := by
    have hm : ∀ k : Nat, h[k]? = some HObj.df → (h ++ h')[k]? = some HObj.df := fun k hk => by rw [List.getElem?_append_left (List.getElem?_eq_some_iff.1 hk).1]; exact hk
    by_cases e : i < h.length
    · rw [List.getElem?_append_left e] at hi; exact ⟨(r.gh i xs vs ds hi).1, (r.gh i xs vs ds hi).2.mono hm (fun _ _ h => h)⟩
    · rw [List.getElem?_append_right (by omega)] at hi
      have := hf _ (List.mem_of_getElem? hi)
      cases this

theorem Wd.none_of_le {E : Ctx} {h : List HObj} {g : G} {w : World} (r : Wd E h g w) (i : Nat) (hi : h.length ≤ i) : g.β i = none := by
  cases e : g.β i with
  | none => rfl
  | some x => obtain ⟨b, c⟩ := x; have := (r.lt i b c e).1; omega

end Go.Jo
