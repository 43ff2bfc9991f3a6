/- What a walk asks of a type, in one row; the rows of a program's types; a run of each small operation. Over any program. -/
import Derived.Test.YtcmlhhjnbopbnaaJoJ0
namespace Go.Jo
open Go.RowKit
set_option autoImplicit false

inductive TK where
  | int (k : IntKind) | bool | string | slice (e : Nat) | array (n e : Nat) | struct | map (k e : Nat) | other

def tkOf : TypeDesc → TK
  | .int k => .int k
  | .bool => .bool
  | .string => .string
  | .slice e => .slice e
  | .array n e => .array n e
  | .struct _ => .struct
  | .map k e => .map k e
  | _ => .other

/-- kind; cells; bytes; an aggregate?; the zero value's cells; of a struct: each field's place, cells, aggregate?, is it of a plain kind?; of a slice, an array: the element's cells, aggregate? -/
structure TI where
  tk : TK
  size : Nat
  bytes : Nat
  ag : Bool
  zero : List Value
  flds : List (Nat × Nat × Bool × Bool)
  esize : Nat
  eag : Bool

def isAg : TypeDesc → Bool
  | .struct _ | .array _ _ => true
  | _ => false

def isPlain : TypeDesc → Bool
  | .int _ | .bool | .string => true
  | _ => false

def szOf (P : Program) (t : TypeId) : Nat :=
  match P.info? t, P.underlying t with
  | some i, some _ => i.size
  | _, _ => 0

def agOf (P : Program) (t : TypeId) : Bool := ((P.underlying t).map isAg).getD false
def plainOf (P : Program) (t : TypeId) : Bool := ((P.underlying t).map isPlain).getD false

def isAgV : Value → Bool
  | .agg _ => true
  | _ => false

def tiOf (P : Program) (t : TypeId) : Option TI :=
  match P.info? t, P.underlying t with
  | some i, some d =>
    match i.zero with
    | some z => if z.cells.toList.all Value.oneCell' = true ∧ isAgV z = isAg d then
        some { tk := tkOf d, size := i.size, bytes := i.bytes, ag := isAg d, zero := z.cells.toList
               flds := (match d with | .struct fs => fs.toList.map fun f => (f.offset, szOf P f.type, agOf P f.type, plainOf P f.type && f.name != "_") | _ => [])
               esize := (match d with | .slice e | .array _ e => szOf P e | _ => 0)
               eag := (match d with | .slice e | .array _ e => agOf P e | _ => false) }
      else none
    | none => none
  | _, _ => none

/-- A table of a program's types. -/
def TOK (P : Program) (T : Nat → Option TI) : Prop := ∀ t i, T t = some i → tiOf P t = some i

section
variable {P : Program}

theorem szOf_info {t : TypeId} (h : szOf P t ≠ 0) : ∃ i d, P.info? t = some i ∧ P.underlying t = some d ∧ i.size = szOf P t := by
  unfold szOf at *
  split at h
  · rename_i i d h1 h2; exact ⟨i, d, h1, h2, rfl⟩
  · exact absurd rfl h

theorem tiOf_spec {t : TypeId} {i : TI} (h : tiOf P t = some i) : ∃ (info : TypeInfo) (d : TypeDesc) (z : Value), P.info? t = some info ∧ P.underlying t = some d ∧ info.zero = some z ∧
    i.tk = tkOf d ∧ i.size = info.size ∧ i.bytes = info.bytes ∧ i.ag = isAg d ∧ i.zero = z.cells.toList ∧ (∀ v ∈ i.zero, v.oneCell' = true) ∧
    i.flds = (match d with | .struct fs => fs.toList.map fun f => (f.offset, szOf P f.type, agOf P f.type, plainOf P f.type && f.name != "_") | _ => []) ∧
    i.esize = (match d with | .slice e | .array _ e => szOf P e | _ => 0) ∧ i.eag = (match d with | .slice e | .array _ e => agOf P e | _ => false) := by
  unfold tiOf at h
  split at h
  · rename_i info d h1 h2
    split at h
    · rename_i z hz
      split at h
      · rename_i hall
        simp only [Option.some.injEq] at h
        subst h
        exact ⟨info, d, z, h1, h2, hz, rfl, rfl, rfl, rfl, rfl, fun v hv => (List.all_eq_true.1 hall.1) v hv, rfl, rfl, rfl⟩
      · cases h
    · cases h
  · cases h

theorem tiOf_zero {t : TypeId} {i : TI} (h : tiOf P t = some i) : ∃ (info : TypeInfo) (d : TypeDesc) (z : Value), P.info? t = some info ∧ P.underlying t = some d ∧ info.zero = some z ∧ isAgV z = isAg d := by
  unfold tiOf at h
  split at h
  · rename_i info d h1 h2
    split at h
    · rename_i z hz
      split at h
      · rename_i hall
        exact ⟨info, d, z, h1, h2, hz, hall.2⟩
      · cases h
    · cases h
  · cases h

theorem run_underlying' {t : TypeId} {d : TypeDesc} (h : P.underlying t = some d) (w : World) : (underlying t).run P w = .ok d w := run_underlying h w
theorem run_typeInfo' {t : TypeId} {i : TypeInfo} (h : P.info? t = some i) (w : World) : (typeInfo t).run P w = .ok i w := by
  simp [typeInfo, h]
theorem run_sizeOf' {t : TypeId} {i : TypeInfo} (h : P.info? t = some i) (w : World) : (sizeOf t).run P w = .ok i.size w := by
  simp [sizeOf, run_typeInfo' h]
theorem run_zeroValue' {t : TypeId} {i : TypeInfo} {z : Value} (h : P.info? t = some i) (hz : i.zero = some z) (w : World) : (zeroValue t).run P w = .ok z w := by
  simp [zeroValue, run_typeInfo' h, hz]
theorem run_isAgg' {t : TypeId} {d : TypeDesc} (h : P.underlying t = some d) (w : World) : (isAgg t).run P w = .ok (isAg d) w := by
  simp only [isAgg, Sem.run_bind, run_underlying' h, Result.andThen_ok]
  cases d <;> rfl

theorem run_loadVar_one {t : TypeId} {d : TypeDesc} (h : P.underlying t = some d) (ha : isAg d = false) (w : World) {a : Addr} {v : Value} (hc : w.cell? a = some v) : (loadVar t a).run P w = .ok v w := by
  simp [loadVar, run_isAgg' h, ha, hc]

theorem run_loadVar_ag {t : TypeId} {d : TypeDesc} {i : TypeInfo} (h : P.underlying t = some d) (hi : P.info? t = some i) (ha : isAg d = true) (w : World) {a : Addr} (f : Nat → Value)
    (hc : ∀ j, j < i.size → w.cell? (a.add j) = some (f j)) : (loadVar t a).run P w = .ok (.agg ((List.range i.size).map f).toArray) w := by
  simp [loadVar, run_isAgg' h, ha, run_sizeOf' hi, run_loadCells w a i.size f hc]

theorem run_part_one {t : TypeId} {d : TypeDesc} (h : P.underlying t = some d) (ha : isAg d = false) (w : World) {cs : Array Value} {off : Nat} {v : Value} (hc : cs[off]? = some v) : (part t cs off).run P w = .ok v w := by
  simp [part, run_isAgg' h, ha, hc]

theorem run_part_ag {t : TypeId} {d : TypeDesc} {i : TypeInfo} (h : P.underlying t = some d) (hi : P.info? t = some i) (ha : isAg d = true) (w : World) (cs : Array Value) (off : Nat) :
    (part t cs off).run P w = .ok (.agg (cs.extract off (off + i.size))) w := by
  simp [part, run_isAgg' h, ha, run_sizeOf' hi]
end

theorem add_add (a : Addr) (m n : Nat) : (a.add m).add n = a.add (m + n) := by
  unfold Addr.add
  by_cases hm : m = 0
  · subst hm; simp
  · by_cases hn : n = 0
    · subst hn; simp
    · rw [if_neg hm, if_neg hn, if_neg (by omega)]; simp [Nat.add_assoc]

theorem add_zero' (a : Addr) : a.add 0 = a := rfl

theorem add_none (b o n : Nat) : (⟨b, o, none⟩ : Addr).add n = ⟨b, o + n, none⟩ := by
  unfold Addr.add; split <;> simp_all

/-- What abstract values the cells of a value are. -/
def AV.cells : AV → Option (List AV)
  | .ag cs => some cs
  | .d (.ag ds) => some (ds.map .d)
  | .d (.tu _) => none
  | .d x => some [.d x]
  | .rp cs => some [.rp cs]
  | .bp b o => some [.bp b o]
  | .ow b n k => some [.ow b n k]
  | .ep b k i o => some [.ep b k i o]
  | .fn f x y => some [.fn f x y]
  | .mv b => some [.mv b]
  | .tu _ | .opt _ _ | .yl _ | .sm _ | .junk => none

theorem RepD.one {H : Mem} {x : D} {v : Value} (h : RepD H x v) (hx : ∀ cs, x ≠ .ag cs) (hy : ∀ cs, x ≠ .tu cs) : v.oneCell' = true := by
  cases h with
  | v h => exact h
  | sl => rfl
  | ag => exact absurd rfl (hx _)
  | tu => exact absurd rfl (hy _)
  | ic => rfl

theorem cells_one {v : Value} (h : v.oneCell' = true) : v.cells = #[v] := by cases v <;> simp_all [Value.cells, Value.oneCell']

theorem AV.cells_rep {H : Mem} {β : Bl} {x : AV} {v : Value} {cs : List AV} (h : Rep H β x v) (hc : x.cells = some cs) :
    v.cells.size = cs.length ∧ ∀ i y, cs[i]? = some y → Rep H β y (v.cells.getD i undef) := by
  have single : ∀ {x : AV} {v : Value}, Rep H β x v → v.cells = #[v] → v.cells.size = [x].length ∧ ∀ (i : Nat) (y : AV), [x][i]? = some y → Rep H β y (v.cells.getD i undef) := by
    intro x v hx hv
    refine ⟨by rw [hv]; rfl, fun i y hy => ?_⟩
    cases i with
    | zero => simp at hy; subst hy; rw [hv]; exact hx
    | succ i => simp at hy
  cases h with
  | d h =>
    cases h with
    | v h => simp only [AV.cells, Option.some.injEq] at hc; subst hc; exact single (.d (.v h)) (cells_one h)
    | sl val hc1 hm hz hl h1 hH hr => simp only [AV.cells, Option.some.injEq] at hc; subst hc; exact single (.d (.sl val hc1 hm hz hl h1 hH hr)) rfl
    | ag hs h =>
      simp only [AV.cells, Option.some.injEq] at hc; subst hc
      refine ⟨by simpa [Value.cells] using hs, fun i y hy => ?_⟩
      simp only [List.getElem?_map, Option.map_eq_some_iff] at hy
      obtain ⟨z, hz, rfl⟩ := hy
      exact .d (h i z hz)
    | tu hs h => simp [AV.cells] at hc
    | ic h => simp only [AV.cells, Option.some.injEq] at hc; subst hc; exact single (.d (.ic h)) rfl
  | ag hs h => simp only [AV.cells, Option.some.injEq] at hc; subst hc; exact ⟨by simpa [Value.cells] using hs, h⟩
  | yl h => simp [AV.cells] at hc
  | sm h => simp [AV.cells] at hc
  | mv h => simp only [AV.cells, Option.some.injEq] at hc; subst hc; exact single (.mv h) rfl
  | tu hs h => simp [AV.cells] at hc
  | rp val h hr => simp only [AV.cells, Option.some.injEq] at hc; subst hc; exact single (.rp val h hr) rfl
  | bp h => simp only [AV.cells, Option.some.injEq] at hc; subst hc; exact single (.bp h) rfl
  | ow h h1 h2 => simp only [AV.cells, Option.some.injEq] at hc; subst hc; exact single (.ow h h1 h2) rfl
  | owNil => simp only [AV.cells, Option.some.injEq] at hc; subst hc; exact single .owNil rfl
  | ep h => simp only [AV.cells, Option.some.injEq] at hc; subst hc; exact single (.ep h) rfl
  | fn hs h hs' h' => simp only [AV.cells, Option.some.injEq] at hc; subst hc; exact single (.fn hs h hs' h') rfl
  | opt => simp [AV.cells] at hc
  | junk => simp [AV.cells] at hc

/-- Are all data? -/
def allD : List AV → Option (List D)
  | [] => some []
  | .d x :: l => (allD l).map (x :: ·)
  | _ :: _ => none

theorem allD_spec : ∀ {l : List AV} {ds : List D}, allD l = some ds → l = ds.map .d
  | [], ds, h => by simp [allD] at h; subst h; rfl
  | .d x :: l, ds, h => by
    simp only [allD, Option.map_eq_some_iff] at h
    obtain ⟨es, he, rfl⟩ := h
    simp [allD_spec he]
  | .ag _ :: _, ds, h | .tu _ :: _, ds, h | .rp _ :: _, ds, h | .bp _ _ :: _, ds, h | .ow _ _ _ :: _, ds, h | .ep _ _ _ _ :: _, ds, h | .fn _ _ _ :: _, ds, h | .opt _ _ :: _, ds, h | .mv _ :: _, ds, h | .sm _ :: _, ds, h | .junk :: _, ds, h => by simp [allD] at h

def mkAg (cs : List AV) : AV :=
  match allD cs with
  | some ds => .d (.ag ds)
  | none => .ag cs

def mkTu (cs : List AV) : AV :=
  match allD cs with
  | some ds => .d (.tu ds)
  | none => .tu cs

theorem allD_map (l : List D) : allD (l.map .d) = some l := by
  induction l with
  | nil => rfl
  | cons x l ih => simp [allD, ih]

theorem mkAg_map (l : List D) : mkAg (l.map .d) = .d (.ag l) := by unfold mkAg; rw [allD_map]

theorem Rep.data {H : Mem} {β : Bl} {x : D} {v : Value} (h : Rep H β (.d x) v) : RepD H x v := by cases h; assumption

theorem mkAg_rep {H : Mem} {β : Bl} {cs : List AV} {vs : Array Value} (hs : vs.size = cs.length) (h : ∀ i x, cs[i]? = some x → Rep H β x (vs.getD i undef)) : Rep H β (mkAg cs) (.agg vs) := by
  unfold mkAg
  split
  · rename_i ds hd
    have e := allD_spec hd
    subst e
    exact .d (.ag (by simpa using hs) (fun i x hx => (h i (.d x) (by simp [hx])).data))
  · exact .ag hs h

theorem mkTu_rep {H : Mem} {β : Bl} {cs : List AV} {vs : Array Value} (hs : vs.size = cs.length) (h : ∀ i x, cs[i]? = some x → Rep H β x (vs.getD i undef)) : Rep H β (mkTu cs) (.tuple vs) := by
  unfold mkTu
  split
  · rename_i ds hd
    have e := allD_spec hd
    subst e
    exact .d (.tu (by simpa using hs) (fun i x hx => (h i (.d x) (by simp [hx])).data))
  · exact .tu hs h

end Go.Jo
