/- That the machine's small operation does what 'pop' says. Over any program. -/
import Derived.Test.YtcmlhhjnbopbnaaJoJ2
import Derived.ChangeMaps5
namespace Go.Jo
open Go.RowKit
set_option autoImplicit false

/-- '==' of two aggregates of plain cells. -/
def EqOK (P : Program) (Q : Nat → Bool) : Prop :=
  ∀ t ti, Q t = true → tiOf P t = some ti → P.eqGuardType P.depth t = false ∧ ∀ (H : Mem) (xs ys : Array Value) (ds es : List D) (c : Bool) (w : World),
    RepD H (.ag ds) (.agg xs) → RepD H (.ag es) (.agg ys) → likeZ ti.zero ds = true → eqCells ds es = some c → (Op.equal t (.agg xs) (.agg ys)).run P w = .ok c w ∧ ∀ b, (Instr.checkKey b 10000 t (.agg xs)).run P w = .ok () w

/-- A function that can be entered. -/
def FnOK (P : Program) (f : FuncId) : Prop := ∃ fn, P.funcs[f]? = some fn ∧ fn.name ≠ "runtime.NumGoroutine" ∧ fn.body ≠ none

theorem run_callFunc {P : Program} {f : FuncId} (h : FnOK P f) (args : Array Value) (w : World) : (callFunc f args).run P w = .ok (.enter f args) w := by
  obtain ⟨fn, h1, h2, h3⟩ := h
  simp [callFunc, h1, h2, h3]


def OutOK (P : Program) (o : Oper) (a : Act) (w : World) (g : G) : Out → Prop
  | .bad => True
  | .val p r => p → ∃ v, (execOp a.eval o).run P w = .ok (.value v) w ∧ Rep g.H g.β r v
  | .box p cs t => p → ∃ vs : Array Value, (execOp a.eval o).run P w = .ok (.value (.pointer (some ⟨w.heap.size, 0, none⟩))) (w.alloc (.cells vs t)) ∧ vs.size = cs.length ∧
      ∀ i x, cs[i]? = some x → Rep g.H g.β x (vs.getD i undef)
  | .row p k n f t => p → ∃ vs : Array Value, (execOp a.eval o).run P w = .ok (.value (.slice (some ⟨w.heap.size, 0, none⟩) n n)) (w.alloc (.cells vs t)) ∧ vs.size = n * k ∧ n ≤ maxLen ∧
      (∀ i, i < n → (f i).length = k) ∧ (∀ i j, i < n → j < k → (vs.getD (i * k + j) undef).oneCell' = true) ∧ ∀ i j x, i < n → (f i)[j]? = some x → RepD g.H x (vs.getD (i * k + j) undef)
  | .lit p k n f t => p → ∃ vs : Array Value, (execOp a.eval o).run P w = .ok (.value (.slice (some ⟨w.heap.size, 0, none⟩) n n)) (w.alloc (.cells vs t)) ∧ vs.size = n * k ∧ n ≤ maxLen ∧
      (∀ i, i < n → (f i).length = k) ∧ (∀ i j, i < n → j < k → (vs.getD (i * k + j) undef).oneCell' = true) ∧ ∀ i j x, i < n → (f i)[j]? = some x → RepD g.H x (vs.getD (i * k + j) undef)
  | .call f args => FnOK P f → ∃ vs : Array Value, (execOp a.eval o).run P w = .ok (.enter f vs) w ∧ vs.size = args.length ∧ ∀ i x, args[i]? = some x → RepD g.H x (vs.getD i undef)
  | .mk _ _ _ _ _ => (execOp a.eval o).run P w = .ok (.value (.map (some w.heap.size))) (w.alloc (.map #[] 0))
  | .ent p d b K ob => p → ∀ (zc : List Value) (za : Bool) (val : List Value → D) (has : List Value → Bool) (ps : List (List Value)) (zs : List Value) (ag : Bool), ob = .mp zc za val has ps zs ag →
      ∃ (blk c : Nat), g.β b = some (blk, c) ∧ ∀ (es : Array MapEntry) (clock : Nat), w.heap[blk]? = some (.map es clock) → MapOK g.H zc za val has ps zs ag es clock →
      ∃ (v : Value) (es' : Array MapEntry) (clock' i : Nat) (e : MapEntry), (execOp a.eval o).run P w = .ok (.value (.tuple #[v, .int .i64 e.born])) (Go.ChangeMaps.setBlock w blk (.map es' clock')) ∧ RepD g.H d v ∧ MapOK g.H zc za val has ps zs ag es' clock' ∧
        es'[i]? = some e ∧ e.key = mkK ag K ∧ (∀ (j : Nat) (x : MapEntry), es[j]? = some x → ∃ x', es'[j]? = some x' ∧ x'.born = x.born ∧ x'.key = x.key)

/-- What of a world a small operation leans on. -/
structure Seen (h : List HObj) (g : G) (w : World) : Prop where
  imm : ∀ p x, g.H p = some x → w.cell? p = some x
  obj : ∀ i o b c, h[i]? = some o → g.β i = some (b, c) → ObjRep g.H g.β w b c o

theorem Wd.seen {E : Ctx} {h : List HObj} {g : G} {w : World} (r : Wd E h g w) : Seen h g w := ⟨r.imm, fun i o b c ho hb => (r.obj i o b c ho hb).1⟩

theorem cell_block {w : World} {blk : Nat} {vs : Array Value} {t : TypeId} (h : w.heap[blk]? = some (.cells vs t (0, 0))) (i : Nat) : w.cell? ⟨blk, i, none⟩ = vs[i]? := by
  simp [World.cell?, h]

theorem getD_some {vs : Array Value} {i : Nat} (h : i < vs.size) : vs[i]? = some (vs.getD i undef) := by
  simp [Array.getD, h]

section
variable {P : Program} {T : Nat → Option TI} {Q O : Nat → Bool} {h : List HObj} {g : G} {w : World} {o : Oper} {a : Act}

theorem ald_sound {t : TypeId} {ti : TI} (hT : tiOf P t = some ti) (hs : Seen h g w) {x : Operand} {av : AV} (hx : Rep g.H g.β av (a.eval x)) (ho : o.op = .load t x) : OutOK P o a w g (ald ti h av) := by
  generalize hv : a.eval x = v at hx
  obtain ⟨info, d, z, hi, hu, hz, htk, hsz, hby, hag, hzero, hone, hfl, hes, hea⟩ := tiOf_spec hT
  have hrun : ∀ {ad : Addr}, a.eval x = .pointer (some ad) → (execOp a.eval o).run P w = ((loadVar t ad).run P w).andThen fun v w => .ok (.value v) w := by
    intro ad he
    simp [execOp, ho, he, Instr.loadAt, Instr.sureAddr]
  unfold ald
  cases hx with
  | rp val hH hr =>
    rename_i cs ad
    simp only
    by_cases hA : ti.ag = true
    · rw [if_pos hA]
      intro hp
      refine ⟨_, by rw [hrun hv, run_loadVar_ag hu hi (by rw [← hag]; exact hA) w val (fun j hj => hs.imm _ _ (hH j (by omega)))]; rfl, ?_⟩
      refine .d (.ag (by simp [hsz]; omega) (fun i y hy => ?_))
      rw [List.getElem?_take] at hy
      split at hy
      · rename_i hlt
        have : ((List.range info.size).map val).toArray.getD i undef = val i := by
          rw [hsz] at hlt
          simp [Array.getD, hlt]
        rw [this]; exact hr i y hy
      · cases hy
    · rw [if_neg hA]
      cases hcs : cs with
      | nil => trivial
      | cons c l =>
        intro _
        subst hcs
        refine ⟨val 0, by rw [hrun hv, run_loadVar_one hu (by rw [← hag]; simpa using hA) w (hs.imm _ _ (by simpa [add_zero'] using hH 0 (by simp)))]; rfl, .d (hr 0 c rfl)⟩
  | bp hb =>
    rename_i b off blk c
    simp only
    cases hob : h[b]? with
    | none => trivial
    | some ob =>
      cases ob with
      | row => trivial
      | dead => trivial
      | ghost => trivial
      | lp => trivial
      | df => trivial
      | mp => trivial
      | en => trivial
      | mx => trivial
      | it => trivial
      | box wrt cs bt =>
        simp only
        obtain ⟨vs, h1, h2, h3⟩ := hs.obj _ _ _ _ hob hb
        have hcell : ∀ j, j < cs.length → w.cell? ⟨blk, j, none⟩ = some (vs.getD j undef) := fun j hj => by rw [cell_block h1]; exact getD_some (by omega)
        by_cases hA : ti.ag = true
        · rw [if_pos hA]
          intro hp
          refine ⟨_, by rw [hrun hv, run_loadVar_ag hu hi (by rw [← hag]; exact hA) w (fun j => vs.getD (off + j) undef) (fun j hj => by rw [add_none]; exact hcell _ (by omega))]; rfl, ?_⟩
          refine mkAg_rep (by simp [hsz]; omega) (fun i y hy => ?_)
          rw [List.getElem?_take] at hy
          split at hy
          · rename_i hlt
            have : ((List.range info.size).map (fun j => vs.getD (off + j) undef)).toArray.getD i undef = vs.getD (off + i) undef := by
              rw [hsz] at hlt
              simp [Array.getD, hlt]
            rw [this]
            rw [List.getElem?_drop] at hy
            exact h3 _ y hy
          · cases hy
        · rw [if_neg hA]
          cases hd : cs.drop off with
          | nil => trivial
          | cons y l =>
            intro _
            have hy : cs[off]? = some y := by
              have : (cs.drop off)[0]? = some y := by rw [hd]; rfl
              simpa using this
            have hlt : off < cs.length := (List.getElem?_eq_some_iff.1 hy).1
            exact ⟨_, by rw [hrun hv, run_loadVar_one hu (by rw [← hag]; simpa using hA) w (hcell off hlt)]; rfl, h3 off y hy⟩
  | ep hb =>
    rename_i b k i off blk c
    simp only
    cases hob : h[b]? with
    | none => trivial
    | some ob =>
      cases ob with
      | box => trivial
      | dead => trivial
      | ghost => trivial
      | lp => trivial
      | df => trivial
      | mp => trivial
      | en => trivial
      | mx => trivial
      | it => trivial
      | row k' n f bt =>
        simp only
        by_cases hk : k = k'
        · subst hk
          rw [if_pos rfl]
          obtain ⟨vs, h1, h2, h3, h4, h6, h5⟩ := hs.obj _ _ _ _ hob hb
          have hcell : ∀ j, i < n → j < k → w.cell? ⟨blk, i * k + j, none⟩ = some (vs.getD (i * k + j) undef) := fun j hin hj => by
            rw [cell_block h1]
            refine getD_some ?_
            rw [h2]
            have : (i + 1) * k ≤ c * k := Nat.mul_le_mul_right k (by omega)
            rw [Nat.add_mul] at this
            omega
          by_cases hA : ti.ag = true
          · rw [if_pos hA]
            rintro ⟨hin, hp⟩
            refine ⟨_, by rw [hrun hv, run_loadVar_ag hu hi (by rw [← hag]; exact hA) w (fun j => vs.getD (i * k + (off + j)) undef) (fun j hj => by rw [add_none, Nat.add_assoc]; exact hcell _ hin (by omega))]; rfl, ?_⟩
            refine .d (.ag (by simp [hsz, h4 i hin]; omega) (fun q y hy => ?_))
            rw [List.getElem?_take] at hy
            split at hy
            · rename_i hlt
              have : ((List.range info.size).map (fun j => vs.getD (i * k + (off + j)) undef)).toArray.getD q undef = vs.getD (i * k + (off + q)) undef := by
                rw [hsz] at hlt
                simp [Array.getD, hlt]
              rw [this]
              rw [List.getElem?_drop] at hy
              exact h5 _ _ y hin hy
            · cases hy
          · rw [if_neg hA]
            cases hd : (f i).drop off with
            | nil => trivial
            | cons y l =>
              intro hin
              have hy : (f i)[off]? = some y := by
                have : ((f i).drop off)[0]? = some y := by rw [hd]; rfl
                simpa using this
              have hlt : off < (f i).length := (List.getElem?_eq_some_iff.1 hy).1
              rw [h4 i hin] at hlt
              exact ⟨_, by rw [hrun hv, run_loadVar_one hu (by rw [← hag]; simpa using hA) w (hcell off hin hlt)]; rfl, .d (h5 _ _ y hin hy)⟩
        · rw [if_neg hk]; trivial
  | d => trivial
  | ag => trivial
  | tu => trivial
  | ow => trivial
  | owNil => trivial
  | fn => trivial
  | opt => trivial
  | yl => trivial
  | mv => trivial
  | sm => trivial
  | junk => trivial

theorem amove_rep {x : AV} {v : Value} (hx : Rep g.H g.β x v) (n : Nat) {p : Prop} {r : AV} (h : amove n x = .val p r) : ∃ ad, v = .pointer (some ad) ∧ Rep g.H g.β r (.pointer (some (ad.add n))) := by
  unfold amove at h
  cases hx with
  | rp val hH hr =>
    rename_i cs ad
    simp only [Out.val.injEq] at h
    obtain ⟨_, rfl⟩ := h
    refine ⟨ad, rfl, .rp (fun j => val (n + j)) (fun j hj => ?_) (fun j y hy => ?_)⟩
    · rw [add_add]; exact hH _ (by simp at hj; omega)
    · exact hr _ y (by simpa using hy)
  | bp hb => simp only [Out.val.injEq] at h; obtain ⟨_, rfl⟩ := h; exact ⟨_, rfl, by rw [add_none]; exact .bp hb⟩
  | ep hb => simp only [Out.val.injEq] at h; obtain ⟨_, rfl⟩ := h; exact ⟨_, rfl, by rw [add_none, Nat.add_assoc]; exact .ep hb⟩
  | d => cases h
  | ag => cases h
  | tu => cases h
  | ow => cases h
  | owNil => cases h
  | fn => cases h
  | opt => cases h
  | yl => cases h
  | mv => cases h
  | sm => cases h
  | junk => cases h

theorem amove_val (n : Nat) (x : AV) : amove n x = .bad ∨ ∃ p r, amove n x = .val p r := by
  unfold amove; split <;> first | exact .inl rfl | exact .inr ⟨_, _, rfl⟩

/-- A struct's field, out of the table's row. -/
theorem fld_spec {ti : TI} {fs : Array Field} (hfl : ti.flds = fs.toList.map fun f => (f.offset, szOf P f.type, agOf P f.type, plainOf P f.type && f.name != "_")) {f o sz : Nat} {ag pl : Bool} (h : ti.flds[f]? = some (o, sz, ag, pl)) :
    ∃ fd, fs[f]? = some fd ∧ fd.offset = o ∧ szOf P fd.type = sz ∧ agOf P fd.type = ag := by
  rw [hfl] at h
  simp only [List.getElem?_map, Option.map_eq_some_iff] at h
  obtain ⟨fd, h1, h2⟩ := h
  simp only [Prod.mk.injEq] at h2
  exact ⟨fd, by simpa using h1, h2.1, h2.2.1, h2.2.2.1⟩

theorem tk_struct {ti : TI} {d : TypeDesc} (h : ti.tk = tkOf d) (h' : ti.tk = .struct) : ∃ fs, d = .struct fs := by
  rw [h] at h'; cases d <;> simp [tkOf] at h'; exact ⟨_, rfl⟩
theorem tk_slice {ti : TI} {d : TypeDesc} {e : Nat} (h : ti.tk = tkOf d) (h' : ti.tk = .slice e) : d = .slice e := by
  rw [h] at h'; cases d <;> simp [tkOf] at h'; rw [h']
theorem tk_array {ti : TI} {d : TypeDesc} {n e : Nat} (h : ti.tk = tkOf d) (h' : ti.tk = .array n e) : d = .array n e := by
  rw [h] at h'; cases d <;> simp [tkOf] at h'; rw [h'.1, h'.2]
theorem tk_string {ti : TI} {d : TypeDesc} (h : ti.tk = tkOf d) (h' : ti.tk = .string) : d = .string := by
  rw [h] at h'; cases d <;> simp [tkOf] at h'; rfl
theorem tk_bool {ti : TI} {d : TypeDesc} (h : ti.tk = tkOf d) (h' : ti.tk = .bool) : d = .bool := by
  rw [h] at h'; cases d <;> simp [tkOf] at h'; rfl
theorem tk_int {ti : TI} {d : TypeDesc} {k : IntKind} (h : ti.tk = tkOf d) (h' : ti.tk = .int k) : d = .int k := by
  rw [h] at h'; cases d <;> simp [tkOf] at h'; rw [h']

theorem run_fieldPlace {fd : Field} {sz : Nat} (hsz : szOf P fd.type = sz) (h0 : sz ≠ 0) (ad : Addr) : (fieldPlace ad fd).run P w = .ok (ad.add fd.offset) w := by
  obtain ⟨i, d, h1, h2, h3⟩ := szOf_info (P := P) (t := fd.type) (by rw [hsz]; exact h0)
  simp [fieldPlace, run_sizeOf' h1, h3, hsz, h0]

theorem fieldAddr_sound {s : TypeId} {ti : TI} (hT : tiOf P s = some ti) {x : Operand} {av : AV} (hx : Rep g.H g.β av (a.eval x)) {f : Nat} (ho : o.op = .fieldAddr s x f) :
    OutOK P o a w g (match ti.tk, ti.flds[f]? with
      | .struct, some (o, sz, _, _) => if sz = 0 then .bad else amove o av
      | _, _ => .bad) := by
  obtain ⟨info, d, z, hi, hu, hz, htk, hsz, hby, hag, hzero, hone, hfl, hes, hea⟩ := tiOf_spec hT
  split
  · rename_i off sz ag pl e1 e2
    split
    · trivial
    · rename_i h0
      obtain ⟨fs, rfl⟩ := tk_struct htk e1
      obtain ⟨fd, hf, hoff, hfs, _⟩ := fld_spec hfl e2
      rcases amove_val off av with hb | ⟨p, r, hb⟩
      · rw [hb]; trivial
      · rw [hb]
        intro _
        obtain ⟨ad, hv, hr⟩ := amove_rep hx off hb
        refine ⟨_, ?_, hr⟩
        simp [execOp, ho, Instr.fieldAt, run_underlying' hu, hf, hv, Instr.sureAddr, run_fieldPlace hfs h0, hoff]
  · trivial

theorem apart_sound {t : TypeId} {av : AV} {v : Value} {off : Nat} (hx : Rep g.H g.β av v) {sz : Nat} {ag : Bool} (hsz : szOf P t = sz) (h0 : sz ≠ 0) (hag : agOf P t = ag) {p : Prop} {r : AV} (h : apart ag sz off av = .val p r) (hp : p) :
    ∃ cs u, v = .agg cs ∧ (part t cs off).run P w = .ok u w ∧ Rep g.H g.β r u := by
  obtain ⟨i, d, h1, h2, h3⟩ := szOf_info (P := P) (t := t) (by rw [hsz]; exact h0)
  have hd : isAg d = ag := by rw [← hag]; simp [agOf, h2]
  have key : ∀ {cs : List AV} {vs : Array Value}, vs.size = cs.length → (∀ i x, cs[i]? = some x → Rep g.H g.β x (vs.getD i undef)) →
      (ag = true → off + sz ≤ cs.length → ∃ u, (part t vs off).run P w = .ok u w ∧ Rep g.H g.β (mkAg ((cs.drop off).take sz)) u) ∧
      (ag = false → ∀ y l, cs.drop off = y :: l → ∃ u, (part t vs off).run P w = .ok u w ∧ Rep g.H g.β y u) := by
    intro cs vs hs hh
    constructor
    · intro ha hle
      refine ⟨_, run_part_ag h2 h1 (by rw [hd, ha]) w vs off, mkAg_rep ?_ ?_⟩
      · simp [h3, hsz]; omega
      · intro j y hy
        rw [List.getElem?_take] at hy
        split at hy
        · rename_i hlt
          rw [List.getElem?_drop] at hy
          have := hh _ y hy
          have e : (vs.extract off (off + i.size)).getD j undef = vs.getD (off + j) undef := by
            have h4 : j < min (off + i.size) vs.size - off := by rw [h3, hsz, hs]; omega
            have h5 : off + j < vs.size := by omega
            simp [Array.getD, h4, h5]
          rw [e]; exact this
        · cases hy
    · intro ha y l hl
      have hy : cs[off]? = some y := by
        have : (cs.drop off)[0]? = some y := by rw [hl]; rfl
        simpa using this
      have hlt : off < vs.size := by rw [hs]; exact (List.getElem?_eq_some_iff.1 hy).1
      exact ⟨_, run_part_one h2 (by rw [hd, ha]) w (getD_some hlt), hh off y hy⟩
  unfold apart at h
  split at h
  · rename_i ds
    cases hx with
    | d hx =>
    cases hx with
    | ag hs hh =>
    rename_i vs
    obtain ⟨k1, k2⟩ := key (cs := ds.map .d) (vs := vs) (by simpa using hs) (fun j y hy => by
      simp only [List.getElem?_map, Option.map_eq_some_iff] at hy
      obtain ⟨z, hz, rfl⟩ := hy
      exact .d (hh j z hz))
    split at h
    · rename_i ha
      simp only [Out.val.injEq] at h
      obtain ⟨e1, rfl⟩ := h
      obtain ⟨u, hu1, hu2⟩ := k1 ha (by rw [List.length_map]; exact (cast e1.symm hp))
      refine ⟨vs, u, rfl, hu1, ?_⟩
      rw [← List.map_drop, ← List.map_take] at hu2
      rwa [mkAg_map] at hu2
    · rename_i ha
      split at h
      · rename_i y l hl
        simp only [Out.val.injEq] at h
        obtain ⟨_, rfl⟩ := h
        obtain ⟨u, hu1, hu2⟩ := k2 (by simpa using ha) (.d y) (l.map .d) (by rw [← List.map_drop, hl]; rfl)
        exact ⟨vs, u, rfl, hu1, hu2⟩
      · cases h
  · rename_i cs
    cases hx with
    | ag hs hh =>
    rename_i vs
    obtain ⟨k1, k2⟩ := key hs hh
    split at h
    · rename_i ha
      simp only [Out.val.injEq] at h
      obtain ⟨e1, rfl⟩ := h
      obtain ⟨u, hu1, hu2⟩ := k1 ha (cast e1.symm hp)
      exact ⟨vs, u, rfl, hu1, hu2⟩
    · rename_i ha
      split at h
      · rename_i y l hl
        simp only [Out.val.injEq] at h
        obtain ⟨_, rfl⟩ := h
        obtain ⟨u, hu1, hu2⟩ := k2 (by simpa using ha) y l hl
        exact ⟨vs, u, rfl, hu1, hu2⟩
      · cases h
  · cases h

theorem apart_val (ag : Bool) (sz off : Nat) (x : AV) : apart ag sz off x = .bad ∨ ∃ p r, apart ag sz off x = .val p r := by
  unfold apart; repeat' split
  all_goals first | exact .inl rfl | exact .inr ⟨_, _, rfl⟩

theorem field_sound {s : TypeId} {ti : TI} (hT : tiOf P s = some ti) {x : Operand} {av : AV} (hx : Rep g.H g.β av (a.eval x)) {f : Nat} (ho : o.op = .field s x f) :
    OutOK P o a w g (match ti.tk, ti.flds[f]? with
      | .struct, some (o, sz, ag, _) => if sz = 0 then .bad else apart ag sz o av
      | _, _ => .bad) := by
  obtain ⟨info, d, z, hi, hu, hz, htk, hsz, hby, hag, hzero, hone, hfl, hes, hea⟩ := tiOf_spec hT
  split
  · rename_i off sz ag pl e1 e2
    split
    · trivial
    · rename_i h0
      obtain ⟨fs, rfl⟩ := tk_struct htk e1
      obtain ⟨fd, hf, hoff, hfs, hfa⟩ := fld_spec hfl e2
      rcases apart_val ag sz off av with hb | ⟨p, r, hb⟩
      · rw [hb]; trivial
      · rw [hb]
        intro hp
        obtain ⟨cs, u, hv, hrun, hr⟩ := apart_sound (w := w) hx hfs h0 hfa hb hp
        refine ⟨u, ?_, hr⟩
        simp [execOp, ho, Instr.field, run_underlying' hu, hf, hv, asAgg, hoff, hrun]
  · trivial

end
end Go.Jo
