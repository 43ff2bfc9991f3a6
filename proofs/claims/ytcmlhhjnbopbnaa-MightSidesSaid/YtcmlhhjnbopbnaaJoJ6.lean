/- That the machine's small operation does what 'pop' says: all of them together. Over any program. -/
import Derived.Test.YtcmlhhjnbopbnaaJoJ5m
namespace Go.Jo
open Go.RowKit
set_option autoImplicit false
section
variable {P : Program} {T : Nat → Option TI} {Q O : Nat → Bool} {h : List HObj} {g : G} {w : World} {o : Oper} {a : Act}

theorem unOp_sound {op : UnOp} {t : TypeId} {x : Operand} {av : AV} (hx : Rep g.H g.β av (a.eval x)) (ho : o.op = .unOp op t x) : OutOK P o a w g (aun op av) := by
  unfold aun
  split
  · intro _; exact ⟨_, by simp [execOp, ho, hx.lit_inv, Op.unary] <;> rfl, .d (.v rfl)⟩
  · intro _; exact ⟨_, by simp [execOp, ho, hx.lit_inv, Op.unary, Op.intArith] <;> rfl, .d (.v rfl)⟩
  · trivial

theorem run_convert_int {s d : TypeId} {ds : TypeDesc} {k k' : IntKind} {n : Int} (hs : P.underlying s = some ds) (hd : P.underlying d = some (.int k)) : (convert s d (.int k' n)).run P w = .ok (.int k (k.wrap n)) w := by
  simp [convert, run_underlying' hs, run_underlying' hd, Conv.intToInt]
theorem run_convert_str {s d : TypeId} {b : ByteArray} (hs : P.underlying s = some .string) (hd : P.underlying d = some .string) : (convert s d (.string b)).run P w = .ok (.string b) w := by
  simp [convert, run_underlying' hs, run_underlying' hd]

theorem convert_sound (hT : TOK P T) {s d : TypeId} {x : Operand} {av : AV} (hx : Rep g.H g.β av (a.eval x)) (ho : o.op = .convert s d x) : OutOK P o a w g (aconv (T s) (T d) av) := by
  unfold aconv
  split
  · rename_i ts td h1 h2
    obtain ⟨_, ds, _, _, hu, _, htk0, _⟩ := tiOf_spec (hT _ _ h1)
    obtain ⟨_, dd, _, _, hu', _, htk, _⟩ := tiOf_spec (hT _ _ h2)
    split
    · split
      · rename_i k' hk
        have := tk_int htk hk
        subst this
        intro _
        exact ⟨_, by simp [execOp, ho, hx.lit_inv, run_convert_int hu hu'] <;> rfl, .d (.v rfl)⟩
      · trivial
    · split
      · rename_i hk0 hk
        have e1 := tk_string htk hk
        have e2 := tk_string htk0 hk0
        subst e1; subst e2
        intro _
        exact ⟨_, by simp [execOp, ho, hx.lit_inv, run_convert_str hu hu'] <;> rfl, .d (.v rfl)⟩
      · trivial
    · trivial
  · trivial

theorem makeInterface_sound (hT : TOK P T) {t : TypeId} {x : Operand} {av : AV} (hx : Rep g.H g.β av (a.eval x)) (ho : o.op = .makeInterface t x) : OutOK P o a w g (amki t (T t) av) := by
  unfold amki
  split
  · rename_i ti y h1
    obtain ⟨_, d, _, _, hu, _, htk, _⟩ := tiOf_spec (hT _ _ h1)
    split
    · rename_i k hk
      have := tk_int htk hk; subst this
      intro _; exact ⟨.iface t (a.eval x), by simp [execOp, ho, Instr.makeInterface, run_underlying' hu], .d (.ic hx.data)⟩
    · rename_i hk
      have := tk_string htk hk; subst this
      intro _; exact ⟨.iface t (a.eval x), by simp [execOp, ho, Instr.makeInterface, run_underlying' hu], .d (.ic hx.data)⟩
    · rename_i hk
      obtain ⟨fs, rfl⟩ := tk_struct htk hk
      intro _; exact ⟨.iface t (a.eval x), by simp [execOp, ho, Instr.makeInterface, run_underlying' hu], .d (.ic hx.data)⟩
    · trivial
  · trivial

theorem map_rep {xs : Array Operand} {e : Operand → AV} (he : ∀ x ∈ xs.toList, Rep g.H g.β (e x) (a.eval x)) : ∀ i y, (xs.toList.map e)[i]? = some y → Rep g.H g.β y ((xs.map a.eval).getD i undef) := by
  intro i y hy
  simp only [List.getElem?_map, Option.map_eq_some_iff] at hy
  obtain ⟨x, hx, rfl⟩ := hy
  have hx' : xs[i]? = some x := by simpa using hx
  have : (xs.map a.eval).getD i undef = a.eval x := by simp [Array.getD_eq_getD_getElem?, hx']
  rw [this]; exact he x (List.mem_of_getElem? hx)

theorem makeFunc_sound {fn : Fn} {first cap : Array Operand} {e : Operand → AV} (h1 : ∀ x ∈ first.toList, Rep g.H g.β (e x) (a.eval x)) (h2 : ∀ x ∈ cap.toList, Rep g.H g.β (e x) (a.eval x)) (ho : o.op = .makeFunc fn first cap) :
    OutOK P o a w g (.val True (.fn fn (first.toList.map e) (cap.toList.map e))) :=
  fun _ => ⟨.func fn (first.map a.eval) (cap.map a.eval), by simp [execOp, ho, Instr.makeFunc], .fn (by simp) (map_rep h1) (by simp) (map_rep h2)⟩

theorem args_two {xs : Array Operand} {e : Operand → AV} {p : AV} (h : xs.toList.map e = [p]) : ∃ x, xs = #[x] ∧ e x = p := by
  match hx : xs.toList with
  | [] => rw [hx] at h; simp at h
  | [x] => rw [hx] at h; simp only [List.map_cons, List.map_nil, List.cons.injEq, and_true] at h; exact ⟨x, by rw [← Array.toArray_toList (xs := xs), hx], h⟩
  | _ :: _ :: _ => rw [hx] at h; simp at h
theorem args_2 {xs : Array Operand} {e : Operand → AV} {p q : AV} (h : xs.toList.map e = [p, q]) : ∃ x y, xs = #[x, y] ∧ e x = p ∧ e y = q := by
  match hx : xs.toList with
  | [] => rw [hx] at h; simp at h
  | [x] => rw [hx] at h; simp at h
  | [x, y] => rw [hx] at h; simp only [List.map_cons, List.map_nil, List.cons.injEq, and_true] at h; exact ⟨x, y, by rw [← Array.toArray_toList (xs := xs), hx], h⟩
  | _ :: _ :: _ :: _ => rw [hx] at h; simp at h
theorem args_3 {xs : Array Operand} {e : Operand → AV} {p q r : AV} (h : xs.toList.map e = [p, q, r]) : ∃ x y z, xs = #[x, y, z] ∧ e x = p ∧ e y = q ∧ e z = r := by
  match hx : xs.toList with
  | [] => rw [hx] at h; simp at h
  | [x] => rw [hx] at h; simp at h
  | [x, y] => rw [hx] at h; simp at h
  | [x, y, z] => rw [hx] at h; simp only [List.map_cons, List.map_nil, List.cons.injEq, and_true] at h; exact ⟨x, y, z, by rw [← Array.toArray_toList (xs := xs), hx], h⟩
  | _ :: _ :: _ :: _ :: _ => rw [hx] at h; simp at h

theorem builtin_sound (hT : TOK P T) {b : Builtin} {xs : Array Operand} {ts : Array TypeId} {e : Operand → AV} (he : ∀ x ∈ xs.toList, Rep g.H g.β (e x) (a.eval x)) (ho : o.op = .call { callee := .builtin b, args := xs, argTypes := ts }) :
    OutOK P o a w g (abuiltin b ((ts[0]?).bind T) (xs.toList.map e)) := by
  unfold abuiltin
  split
  · rename_i x hx
    obtain ⟨y, rfl, rfl⟩ := args_two hx
    have hy := he y (by simp)
    split
    · rename_i ti hti
      simp only [Option.bind_eq_some_iff] at hti
      obtain ⟨t, ht, hti⟩ := hti
      obtain ⟨_, d, _, _, hu, _, htk, _⟩ := tiOf_spec (hT _ _ hti)
      split
      · rename_i s hk hs
        have := tk_string htk hk; subst this
        rw [hs] at hy
        intro _; exact ⟨_, by simp [execOp, ho, resolve, invoke, builtin, Builtin.len_, ht, run_underlying' hu, hy.lit_inv, goInt] <;> rfl, .d (.v rfl)⟩
      · rename_i el k n f hk hs
        have := tk_slice htk hk; subst this
        rw [hs] at hy
        generalize hv : a.eval y = v at hy
        cases hy with
        | d hy =>
        cases hy with
        | sl =>
        intro _; exact ⟨_, by simp [execOp, ho, resolve, invoke, builtin, Builtin.len_, ht, run_underlying' hu, hv, goInt] <;> rfl, .d (.v rfl)⟩
      · rename_i el A n c hk hs
        have := tk_slice htk hk; subst this
        rw [hs] at hy
        intro _; exact ⟨_, by simp [execOp, ho, resolve, invoke, builtin, Builtin.len_, ht, run_underlying' hu, hy.lit_inv, goInt] <;> rfl, .d (.v rfl)⟩
      · rename_i el b n k hk hs
        have := tk_slice htk hk; subst this
        rw [hs] at hy
        generalize hv : a.eval y = v at hy
        cases hy with
        | ow => intro _; exact ⟨_, by simp [execOp, ho, resolve, invoke, builtin, Builtin.len_, ht, run_underlying' hu, hv, goInt] <;> rfl, .d (.v rfl)⟩
        | owNil => intro _; exact ⟨_, by simp [execOp, ho, resolve, invoke, builtin, Builtin.len_, ht, run_underlying' hu, hv, goInt] <;> rfl, .d (.v rfl)⟩
      · rename_i n el hk
        have := tk_array htk hk; subst this
        intro _; exact ⟨_, by simp [execOp, ho, resolve, invoke, builtin, Builtin.len_, ht, run_underlying' hu, goInt] <;> rfl, .d (.v rfl)⟩
      · trivial
    · trivial
  · rename_i k m k' n hx
    obtain ⟨y, z, rfl, e1, e2⟩ := args_2 hx
    have h1 := he y (by simp); have h2 := he z (by simp)
    rw [e1] at h1; rw [e2] at h2
    intro _; exact ⟨_, by simp [execOp, ho, resolve, invoke, builtin, Builtin.min_, Builtin.min2, h1.int_inv, h2.int_inv] <;> rfl, .d (.v rfl)⟩
  · rename_i k m k' n hx
    obtain ⟨y, z, rfl, e1, e2⟩ := args_2 hx
    have h1 := he y (by simp); have h2 := he z (by simp)
    rw [e1] at h1; rw [e2] at h2
    intro _; exact ⟨_, by simp [execOp, ho, resolve, invoke, builtin, Builtin.max_, Builtin.max2, h1.int_inv, h2.int_inv] <;> rfl, .d (.v rfl)⟩
  · rename_i k m k' n k'' q hx
    obtain ⟨y, z, u, rfl, e1, e2, e3⟩ := args_3 hx
    have h1 := he y (by simp); have h2 := he z (by simp); have h3 := he u (by simp)
    rw [e1] at h1; rw [e2] at h2; rw [e3] at h3
    intro _; exact ⟨_, by simp [execOp, ho, resolve, invoke, builtin, Builtin.min_, Builtin.min2, h1.int_inv, h2.int_inv, h3.int_inv] <;> rfl, .d (.v rfl)⟩
  · rename_i k m k' n k'' q hx
    obtain ⟨y, z, u, rfl, e1, e2, e3⟩ := args_3 hx
    have h1 := he y (by simp); have h2 := he z (by simp); have h3 := he u (by simp)
    rw [e1] at h1; rw [e2] at h2; rw [e3] at h3
    intro _; exact ⟨_, by simp [execOp, ho, resolve, invoke, builtin, Builtin.max_, Builtin.max2, h1.int_inv, h2.int_inv, h3.int_inv] <;> rfl, .d (.v rfl)⟩
  · trivial

theorem call_sound {f : FuncId} {xs : Array Operand} {ts : Array TypeId} {e : Operand → AV} (he : ∀ x ∈ xs.toList, Rep g.H g.β (e x) (a.eval x)) (ho : o.op = .call { callee := .value (.func f), args := xs, argTypes := ts }) {ds : List D} (hd : toDs (xs.toList.map e) = some ds) :
    OutOK P o a w g (.call f ds) := by
  intro hf
  refine ⟨xs.map a.eval, ?_, by have := toDs_len (g := g) hd; simpa using this, fun i x hx => toDs_rep (f := fun i => (xs.map a.eval).getD i undef) (map_rep he) hd i x hx⟩
  simp [execOp, ho, resolve, Act.eval, Deferred.ofValue, invoke, run_callFunc hf]

theorem pop_sound (hT : TOK P T) (hQ : EqOK P Q) (hs : Seen h g w) {e : Operand → AV} (he : ∀ x ∈ o.op.operands.toList, Rep g.H g.β (e x) (a.eval x)) : OutOK P o a w g (pop T Q O h e o.op) := by
  unfold pop
  split
  · rename_i x ho
    rw [ho] at he
    intro _; exact ⟨a.eval x, by simp [execOp, ho], he x (by simp [Op.operands])⟩
  · rename_i x ho
    rw [ho] at he
    intro _; exact ⟨a.eval x, by simp [execOp, ho], he x (by simp [Op.operands])⟩
  · rename_i t ho
    split
    · rename_i ti hti; exact alloc_sound (hT _ _ hti) ho
    · trivial
  · rename_i t x ho
    rw [ho] at he
    split
    · rename_i cs hc; exact box_sound (he x (by simp [Op.operands])) ho hc
    · trivial
  · rename_i t x ho
    rw [ho] at he
    split
    · rename_i ti hti; exact ald_sound (hT _ _ hti) hs (he x (by simp [Op.operands])) ho
    · trivial
  · rename_i s x f ho
    rw [ho] at he
    split
    · rename_i ti hti; exact fieldAddr_sound (hT _ _ hti) (he x (by simp [Op.operands])) ho
    · trivial
  · rename_i s x f ho
    rw [ho] at he
    split
    · rename_i ti hti; exact field_sound (hT _ _ hti) (he x (by simp [Op.operands])) ho
    · trivial
  · rename_i t x i ho
    rw [ho] at he
    split
    · rename_i ti hti; exact indexAddr_sound (hT _ _ hti) (he x (by simp [Op.operands])) (he i (by simp [Op.operands])) ho
    · trivial
  · rename_i t x i ho
    rw [ho] at he
    split
    · rename_i ti hti; exact index_sound (hT _ _ hti) (he x (by simp [Op.operands])) (he i (by simp [Op.operands])) ho
    · trivial
  · rename_i t x lo hi mx ho
    rw [ho] at he
    split
    · rename_i ti hti
      exact slice_sound (hT _ _ hti) (he x (by simp [Op.operands])) (fun y hy => he y (by simp [Op.operands, hy])) (fun y hy => he y (by simp [Op.operands, hy])) ho
    · trivial
  · rename_i op t x y u ho
    rw [ho] at he
    exact binOp_sound hQ hT (he x (by simp [Op.operands])) (he y (by simp [Op.operands])) ho
  · rename_i op t x ho
    rw [ho] at he
    exact unOp_sound (he x (by simp [Op.operands])) ho
  · rename_i s d x ho
    rw [ho] at he
    exact convert_sound hT (he x (by simp [Op.operands])) ho
  · rename_i t x ho
    rw [ho] at he
    exact makeInterface_sound hT (he x (by simp [Op.operands])) ho
  · rename_i fn first cap ho
    rw [ho] at he
    exact makeFunc_sound (fun x hx => he x (by simp only [Op.operands, Array.toList_append, List.mem_append]; exact .inl hx)) (fun x hx => he x (by simp only [Op.operands, Array.toList_append, List.mem_append]; exact .inr hx)) ho
  · rename_i t i ho
    rw [ho] at he
    exact extract_sound (he t (by simp [Op.operands])) ho
  · rename_i t parts ho
    rw [ho] at he
    split
    · rename_i ti hti; exact build_sound (hT _ _ hti) (fun p hp => he p.2 (by simp only [Op.operands, List.mem_map]; exact ⟨p, hp, rfl⟩)) ho
    · trivial
  · rename_i t len parts ho
    rw [ho] at he
    split
    · rename_i ti hti
      split
      · rename_i el hel
        split
        · rename_i te hte; exact buildSlice_sound (hT _ _ hti) hel (hT _ _ hte) (fun p hp => he p.2 (by simp only [Op.operands, List.mem_map]; exact ⟨p, hp, rfl⟩)) ho
        · trivial
      · trivial
    · trivial
  · rename_i t l c ho
    rw [ho] at he
    split
    · rename_i ti hti
      split
      · rename_i el hel
        split
        · rename_i te hte; exact makeSlice_sound (hT _ _ hti) hel (hT _ _ hte) (he l (by simp [Op.operands])) (he c (by simp [Op.operands])) ho
        · trivial
      · trivial
    · trivial
  · rename_i t ho; exact makeMap_sound ho
  · rename_i t m k ok ho
    rw [ho] at he
    exact lookup_sound hT hQ hs (he m (by simp [Op.operands])) (he k (by simp [Op.operands])) ho
  · rename_i t m k ho
    rw [ho] at he
    exact mapEntry_sound hT hQ hs (he m (by simp [Op.operands])) (he k (by simp [Op.operands])) ho
  · rename_i c ho
    rw [ho] at he
    obtain ⟨cal, xs, ts⟩ := c
    have he' : ∀ x ∈ xs.toList, Rep g.H g.β (e x) (a.eval x) := fun x hx => he x (by simp only [Op.operands, Call.operands, Array.toList_append, List.mem_append]; exact .inr hx)
    dsimp only
    split
    · exact builtin_sound hT he' ho
    · rename_i f hf
      skip
      split
      · rename_i ds hd; exact call_sound he' ho hd
      · trivial
    · trivial
  · trivial
end
end Go.Jo
