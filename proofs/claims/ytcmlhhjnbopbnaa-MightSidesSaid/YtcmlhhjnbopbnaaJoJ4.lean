/- That the machine's small operation does what 'pop' says: the rest. Over any program. -/
import Derived.Test.YtcmlhhjnbopbnaaJoJ3
namespace Go.Jo
open Go.RowKit
set_option autoImplicit false
section
variable {P : Program} {T : Nat → Option TI} {Q O : Nat → Bool} {h : List HObj} {g : G} {w : World} {o : Oper} {a : Act}

theorem Rep.int_inv {H : Mem} {β : Bl} {k : IntKind} {n : Int} {v : Value} (h : Rep H β (.d (.v (.int k n))) v) : v = .int k n := by
  cases h with | d h => cases h; rfl
theorem Rep.lit_inv {H : Mem} {β : Bl} {x v : Value} (h : Rep H β (.d (.v x)) v) : v = x := by
  cases h with | d h => cases h; rfl

theorem esize_info {t : TypeId} (h0 : szOf P t ≠ 0) : ∃ i, P.info? t = some i ∧ i.size = szOf P t := by
  obtain ⟨i, _, h1, _, h3⟩ := szOf_info h0; exact ⟨i, h1, h3⟩

theorem indexAddr_sound {t : TypeId} {ti : TI} (hT : tiOf P t = some ti) {x ix : Operand} {av iv : AV} (hx : Rep g.H g.β av (a.eval x)) (hiv : Rep g.H g.β iv (a.eval ix)) (ho : o.op = .indexAddr t x ix) :
    OutOK P o a w g (aidx ti av iv) := by
  obtain ⟨info, d, z, hi, hu, hz, htk, hsz, hby, hag, hzero, hone, hfl, hes, hea⟩ := tiOf_spec hT
  unfold aidx
  split
  · rename_i ik n
    have hn := hiv.int_inv
    split
    · rename_i e he
      have hd := tk_slice htk he
      subst hd
      simp only at hes
      split
      · rename_i k len f
        split
        · rename_i hk
          rintro ⟨h0, h1⟩
          generalize hv : a.eval x = v at hx
          cases hx with
          | d hx =>
          cases hx with
          | sl val hc hm hzz hl h11 hH hr =>
          rename_i A c
          have hlt : n.toNat < len := by omega
          obtain ⟨ad, hA, hH0⟩ := hH n.toNat 0 hlt (by omega)
          obtain ⟨ei, he1, he2⟩ := esize_info (P := P) (t := e) (by rw [← hes]; omega)
          refine ⟨.pointer (some (ad.add (n.toNat * k))), ?_, .rp (fun j => val n.toNat j) (fun j hj => ?_) (fun j y hy => hr _ j y hlt hy)⟩
          · simp [execOp, ho, hv, hn, Instr.indexAt, asIntOf, run_underlying' hu, hA, h0, h1, run_sizeOf' he1, he2, ← hes, hk.1]
          · obtain ⟨ad', hA', hH'⟩ := hH n.toNat j hlt (by rw [← hl _ hlt]; exact hj)
            rw [hA] at hA'; cases hA'
            rw [add_add]; exact hH'
        · trivial
      · rename_i b len k
        split
        · rename_i hk
          rintro ⟨h0, h1⟩
          generalize hv : a.eval x = v at hx
          obtain ⟨ei, he1, he2⟩ := esize_info (P := P) (t := e) (by rw [← hes]; omega)
          cases hx with
          | ow hb hc hm =>
            rename_i blk c
            refine ⟨.pointer (some ⟨blk, n.toNat * k + 0, none⟩), ?_, .ep hb⟩
            simp [execOp, ho, hv, hn, Instr.indexAt, asIntOf, run_underlying' hu, h0, h1, run_sizeOf' he1, he2, ← hes, hk.1, add_none]
          | owNil => simp at h1; omega
        · trivial
      · trivial
    · rename_i len e he
      have hd := tk_array htk he
      subst hd
      simp only at hes
      split
      · trivial
      · rename_i h00
        obtain ⟨ei, he1, he2⟩ := esize_info (P := P) (t := e) (by rw [← hes]; exact h00)
        rcases amove_val (n.toNat * ti.esize) av with hb | ⟨p, r, hb⟩
        · rw [hb]; trivial
        · rw [hb]
          rintro ⟨h0, h1⟩
          obtain ⟨ad, hv, hr⟩ := amove_rep hx _ hb
          refine ⟨_, ?_, hr⟩
          simp [execOp, ho, hv, hn, Instr.indexAt, Instr.sureAddr, asIntOf, run_underlying' hu, h0, h1, run_sizeOf' he1, he2, ← hes]
    · trivial
  · trivial

theorem byteAt_eq {s : ByteArray} {n : Nat} (h : n < s.size) : byteAt s n = ((s[n]'h).toNat : Int) := by simp [byteAt, h]

theorem index_sound {t : TypeId} {ti : TI} (hT : tiOf P t = some ti) {x ix : Operand} {av iv : AV} (hx : Rep g.H g.β av (a.eval x)) (hiv : Rep g.H g.β iv (a.eval ix)) (ho : o.op = .index t x ix) :
    OutOK P o a w g (aindex ti av iv) := by
  obtain ⟨info, d, z, hi, hu, hz, htk, hsz, hby, hag, hzero, hone, hfl, hes, hea⟩ := tiOf_spec hT
  unfold aindex
  split
  · rename_i k n
    have hn := hiv.int_inv
    split
    · rename_i hs
      have hd := tk_string htk hs
      subst hd
      split
      · rename_i s
        rintro ⟨h0, h1⟩
        have hlt : n.toNat < s.size := by omega
        refine ⟨_, ?_, .d (.v rfl)⟩
        simp [execOp, ho, hx.lit_inv, hn, Instr.index, asIntOf, run_underlying' hu, h0, hlt, byteAt_eq hlt]
      · trivial
    · rename_i len e he
      have hd := tk_array htk he
      subst hd
      simp only at hes hea
      split
      · trivial
      · rename_i h00
        obtain ⟨ei, he1, he2⟩ := esize_info (P := P) (t := e) (by rw [← hes]; exact h00)
        rcases apart_val ti.eag ti.esize (n.toNat * ti.esize) av with hb | ⟨p, r, hb⟩
        · rw [hb]; trivial
        · rw [hb]
          rintro ⟨hp, h0, h1⟩
          obtain ⟨cs, u, hv, hrun, hr⟩ := apart_sound (w := w) hx hes.symm h00 hea.symm hb hp
          refine ⟨u, ?_, hr⟩
          rw [hes] at hrun
          simp [execOp, ho, hv, hn, Instr.index, asIntOf, run_underlying' hu, h0, h1, run_sizeOf' he1, he2, hrun]
    · trivial
  · trivial

theorem iop_sound {k : IntKind} {x y : Int} {op : BinOp} (hop : op ≠ .shl ∧ op ≠ .shr) {p : Prop} {r : AV} (h : iop op k x y = .val p r) (hp : p) {t : TypeId} :
    ∃ v, (binOp op t (.int k x) (.int k y)).run P w = .ok v w ∧ Rep g.H g.β r v := by
  obtain ⟨h1, h2⟩ := hop
  cases op <;> simp only [iop, Out.val.injEq, reduceCtorEq, ne_eq] at h h1 h2
  case quo => obtain ⟨e, rfl⟩ := h; have hy : y ≠ 0 := cast e.symm hp; exact ⟨_, by simp [binOp, Op.intDiv, hy], .d (.v rfl)⟩
  case rem => obtain ⟨e, rfl⟩ := h; have hy : y ≠ 0 := cast e.symm hp; exact ⟨_, by simp [binOp, Op.intDiv, hy], .d (.v rfl)⟩
  all_goals (obtain ⟨_, rfl⟩ := h; exact ⟨_, by simp [binOp, Op.intArith, Op.intBits, Op.intCmp, bitsI] <;> rfl, .d (.v rfl)⟩)

theorem iop_val (op : BinOp) (k : IntKind) (x y : Int) : iop op k x y = .bad ∨ ∃ p r, iop op k x y = .val p r := by
  cases op <;> first | exact .inl rfl | exact .inr ⟨_, _, rfl⟩

theorem run_eqGuard_int (op : BinOp) (t : TypeId) (x y : Operand) (k k' : IntKind) (m n : Int) : (eqGuard op t x y (.int k m) (.int k' n)).run P w = .ok () w := by
  cases op <;> simp [eqGuard]
theorem run_eqGuard_str (op : BinOp) (t : TypeId) (x y : Operand) (m n : ByteArray) : (eqGuard op t x y (.string m) (.string n)).run P w = .ok () w := by
  cases op <;> simp [eqGuard]
theorem run_eqGuard_bool (op : BinOp) (t : TypeId) (x y : Operand) (m n : Bool) : (eqGuard op t x y (.bool m) (.bool n)).run P w = .ok () w := by
  cases op <;> simp [eqGuard]
theorem run_eqGuard_agg (op : BinOp) (t : TypeId) (x y : Operand) (m n : Array Value) (ht : P.eqGuardType P.depth t = false) : (eqGuard op t x y (.agg m) (.agg n)).run P w = .ok () w := by
  cases op <;> simp [eqGuard, ht]

theorem binOp_eql_bool (t : TypeId) (m n : Bool) : binOp .eql t (.bool m) (.bool n) = (do pure (.bool (← Op.equal t (.bool m) (.bool n)))) := rfl
theorem binOp_neq_bool (t : TypeId) (m n : Bool) : binOp .neq t (.bool m) (.bool n) = (do pure (.bool (!(← Op.equal t (.bool m) (.bool n))))) := rfl
theorem binOp_eql_agg (t : TypeId) (m n : Array Value) : binOp .eql t (.agg m) (.agg n) = (do pure (.bool (← Op.equal t (.agg m) (.agg n)))) := rfl
theorem binOp_neq_agg (t : TypeId) (m n : Array Value) : binOp .neq t (.agg m) (.agg n) = (do pure (.bool (!(← Op.equal t (.agg m) (.agg n))))) := rfl
theorem run_equalIn_bool {t : TypeId} (hu : P.underlying t = some .bool) (d : Nat) (m n : Bool) (w : World) : (Op.equalIn (d + 1) t (.bool m) (.bool n)).run P w = .ok (m == n) w := by
  simp [Op.equalIn, run_underlying' hu]
theorem run_equal_bool {t : TypeId} (hu : P.underlying t = some .bool) (m n : Bool) (w : World) : (Op.equal t (.bool m) (.bool n)).run P w = .ok (m == n) w := run_equalIn_bool hu 9999 m n w

theorem binOp_sound (hQ : EqOK P Q) (hT : TOK P T) {op : BinOp} {t u : TypeId} {x y : Operand} {av bv : AV} (hx : Rep g.H g.β av (a.eval x)) (hy : Rep g.H g.β bv (a.eval y)) (ho : o.op = .binOp op t x y u) :
    OutOK P o a w g (bop T Q t op av bv) := by
  unfold bop
  split
  · rename_i k m k' n
    have e1 := hx.int_inv
    have e2 := hy.int_inv
    split
    · intro hp; exact ⟨_, by simp [execOp, ho, e1, e2, run_eqGuard_int, binOp, Op.shift, show ¬ n < 0 by omega], .d (.v rfl)⟩
    · intro hp; exact ⟨_, by simp [execOp, ho, e1, e2, run_eqGuard_int, binOp, Op.shift, show ¬ n < 0 by omega], .d (.v rfl)⟩
    · rename_i n1 n2
      split
      · rename_i hk
        subst hk
        rcases iop_val op k m n with hb | ⟨p, r, hb⟩
        · rw [hb]; trivial
        · rw [hb]
          intro hp
          obtain ⟨v, hv, hr⟩ := iop_sound (P := P) (w := w) (g := g) (t := t) ⟨n1, n2⟩ hb hp
          exact ⟨v, by simp [execOp, ho, e1, e2, run_eqGuard_int, hv], hr⟩
      · trivial
  · rename_i m n
    have e1 := hx.lit_inv
    have e2 := hy.lit_inv
    cases op <;> simp only [sop] <;> try trivial
    · intro hp
      have h' : (m.size : Int) + n.size ≤ 9223372036854775807 := by have : IntKind.i64.max = 9223372036854775807 := rfl; omega
      exact ⟨_, by simp [execOp, ho, e1, e2, run_eqGuard_str, binOp, Op.stringOp, h'], .d (.v rfl)⟩
    · intro hp; exact ⟨_, by simp [execOp, ho, e1, e2, run_eqGuard_str, binOp, Op.stringOp], .d (.v rfl)⟩
    · intro hp; exact ⟨_, by simp [execOp, ho, e1, e2, run_eqGuard_str, binOp, Op.stringOp], .d (.v rfl)⟩
  · rename_i m n
    have e1 := hx.lit_inv
    have e2 := hy.lit_inv
    split
    · rename_i ti hti
      obtain ⟨info, d, z, hi, hu, hz, htk, hsz, hby, hag, hzero, hone, hfl, hes, hea⟩ := tiOf_spec (hT _ _ hti)
      split
      · rename_i hb
        have hd := tk_bool htk hb
        subst hd
        split
        · intro hp; exact ⟨_, by simp [execOp, ho, e1, e2, run_eqGuard_bool, binOp_eql_bool, run_equal_bool hu], .d (.v rfl)⟩
        · intro hp; exact ⟨_, by simp [execOp, ho, e1, e2, run_eqGuard_bool, binOp_neq_bool, run_equal_bool hu], .d (.v rfl)⟩
        · trivial
      · trivial
    · trivial
  · rename_i xs ys
    split
    · rename_i ti c hq hti hc
      split
      · rename_i hlike
        obtain ⟨hq1, hq2⟩ := hQ t ti hq (hT _ _ hti)
        cases hx with
        | d hx =>
        cases hy with
        | d hy =>
        generalize hv : a.eval x = v at hx
        generalize hv' : a.eval y = v' at hy
        cases hx with
        | ag hs hh =>
        cases hy with
        | ag hs' hh' =>
        rename_i vs us
        have := hq2 g.H vs us xs ys c w (.ag hs hh) (.ag hs' hh') hlike hc
        split
        · intro hp; exact ⟨_, by simp [execOp, ho, hv, hv', run_eqGuard_agg _ _ _ _ _ _ hq1, binOp_eql_agg, this], .d (.v rfl)⟩
        · intro hp; exact ⟨_, by simp [execOp, ho, hv, hv', run_eqGuard_agg _ _ _ _ _ _ hq1, binOp_neq_agg, this], .d (.v rfl)⟩
        · trivial
      · trivial
    · trivial
  · trivial
end
end Go.Jo
