/- What writes, all of it; a region, in the order of the text and in any order. Over any program. -/
import Derived.Test.YtcmlhhjnbopbnaaJoJ10
namespace Go.Jo
open Go.RowKit
set_option autoImplicit false
section
variable {P : Program} {c : Cfg}

theorem aappend_sound {rd : Option Nat} {E : Ctx} {st : St} {g : G} {a : Act} {w : World} {K : St → Prop} {o : Oper} {t el : TypeId} {ti te : TI} (hT : tiOf P t = some ti) (hel : ti.tk = .slice el) (hTe : tiOf P el = some te) {s x : Operand}
    (ho : o.op = .call { callee := .builtin .append, args := #[s, x], argTypes := #[t, t] }) (hr : Rel E st g a w) (h : aappend te el (ev st.σ s) (ev st.σ x) o.dst st K)
    {next : Act → World → Prop} {Q : Exit → Act → World → Prop} (hn : ∀ st' g' a' w', K st' → Rel E st' g' a' w' → next a' w') : Oper.wpr rd P o a w next Q := by
  obtain ⟨info, d, z, hi, hu, hz, htk, hsz, hby, hag, hzero, hone, hfl, hes, hea⟩ := tiOf_spec hT
  obtain ⟨info', d', z', hi', hu', hz', htk', hsz', hby', hag', hzero', hone', hfl', hes', hea'⟩ := tiOf_spec hTe
  have hd := tk_slice htk hel
  subst hd
  have hs : Rep g.H g.β (ev st.σ s) (a.eval s) := ev_rep (fun t _ => hr.sl.looks t)
  have hx : Rep g.H g.β (ev st.σ x) (a.eval x) := ev_rep (fun t _ => hr.sl.looks t)
  have hrun : ∀ {v' : Value} {w' : World}, (Builtin.append_ #[t, t] o.type #[a.eval s, a.eval x]).run P w = .ok v' w' → next (a.put o.dst v') w' → Oper.wpr rd P o a w next Q := by
    intro v' w' h1 hnx
    have : (execOp a.eval o).run P w = .ok (.value v') w' := by simp [execOp, ho, resolve, invoke, builtin, h1]
    exact wpr_value (fun c e => by rw [ho] at e; cases e) this hnx
  unfold aappend at h
  split at h
  · rename_i k m fx hsrc
    split at h
    · rename_i hsv
      obtain ⟨⟨k1, k2, k3, k4, k5⟩, hK⟩ := h
      rw [hsv] at hs
      have hsn := hs.lit_inv
      obtain ⟨S⟩ := asrc_spec hr.wd.seen hx hsrc k2
      have hzs : z'.cells.size = k := by rw [← k3, hzero']; simp
      obtain ⟨v', w', e1, e2, e3, e4, e5⟩ := run_append_src hu hi' hz' (by rw [← hsz', k1]) hzs k2 S (ty := o.type) w.heap.size (.slice none 0 0) 0 [] ⟨by simp, .inl ⟨rfl, rfl⟩⟩ (by omega) (by rw [← hby']; simpa using k5) (Nat.le_refl _)
      rw [← hsn] at e1
      refine hrun e1 ?_
      simp only [List.nil_append, Nat.zero_add] at e2
      have hg0 : w.grownBy w' none := by rw [hsn] at *; exact e3
      have hbel : Below w.heap.size w w' := ⟨hg0.os, hg0.tape, hg0.output, hg0.size, fun i hi => hg0.block i hi (by simp)⟩
      have hno : g.β st.h.length = none := hr.wd.none_of_le _ (Nat.le_refl _)
      by_cases hnil : v' = .slice none 0 0
      · have hm0 : m = 0 := (e4.1 hnil).2
        subst hm0
        refine hn _ g _ _ hK ⟨hr.sl.putS o.dst (by rw [hnil]; exact .owNil), (hr.wd.below_same hbel).more _ (by simp [HObj.gfree]), by rw [put_defers]; exact hr.df.app⟩
      · obtain ⟨blk, cc, rfl, q1, q2, q3, q4⟩ := row_of_owns S (n := 0) (f := fun _ => []) (xs := []) (by simp) (fun i hi => by omega) (fun i j hi => by omega) (fun i j x hi => by omega) (by simpa using e2) hnil
        simp only [Nat.zero_add, Nat.not_lt_zero, if_false, Nat.sub_zero] at q1 q4
        have hblk : blk = w.heap.size := by
          rcases e5 with e5 | e5
          · simp [Value.ownBlock] at e5
          · simpa [Value.ownBlock] using e5
        subst hblk
        have hW := hr.wd.more [.row k m fx el] (by simp [HObj.gfree])
        have hW2 : Wd E (st.h ++ [.row k m fx el]) ⟨g.H, g.β.add st.h.length w.heap.size cc⟩ w' := by
          have hW' := hW.below_same hbel
          refine ⟨hW'.imm, fun i oi bi ci hoi hβi => ?_, fun i bi ci hβi => ?_, fun i bi ci p x' hβi hp => ?_, fun i j bi ci cj h1 h2 => ?_, hW'.fr, fun i xs vs ds hi => ⟨fun j x hx => ((hW'.gh i xs vs ds hi).1 j x hx).mono (fun _ _ h => h) (Bl.add_mono hno), (hW'.gh i xs vs ds hi).2.mono (fun _ h => h) (Bl.add_mono hno)⟩⟩
          · rcases Bl.add_cases hβi with ⟨rfl, e⟩ | ⟨_, hβi⟩
            · cases e
              simp only [List.getElem?_append_right (Nat.le_refl _), Nat.sub_self, List.getElem?_cons_zero, Option.some.injEq] at hoi
              subst hoi
              exact ⟨q4 _, fun _ => .inl hr.wd.fr.size⟩
            · obtain ⟨k1, k2⟩ := hW'.obj i oi bi ci hoi hβi
              exact ⟨k1.mono (fun _ _ h => h) (Bl.add_mono hno) rfl, k2⟩
          · rcases Bl.add_cases hβi with ⟨rfl, e⟩ | ⟨_, hβi⟩
            · cases e; exact ⟨by simp, q3⟩
            · exact hW'.lt i bi ci hβi
          · rcases Bl.add_cases hβi with ⟨rfl, e⟩ | ⟨_, hβi⟩
            · cases e; intro e; have := World.block_lt_of_cell? w p (hr.wd.imm p x' hp); omega
            · exact hW'.sep i bi ci p x' hβi hp
          · rcases Bl.add_cases h1 with ⟨e1, f1⟩ | ⟨_, h1⟩ <;> rcases Bl.add_cases h2 with ⟨e2, f2⟩ | ⟨_, h2⟩
            · exact .inl (by rw [e1, e2])
            · cases f1; have := (hr.wd.lt j _ _ h2).2; omega
            · cases f2; have := (hr.wd.lt i _ _ h1).2; omega
            · exact hW'.inj i j bi ci cj h1 h2
        exact hn _ _ _ _ hK ⟨(hr.sl.mono (g' := ⟨g.H, g.β.add st.h.length w.heap.size cc⟩) (fun _ _ h => h) (Bl.add_mono hno)).putS o.dst (by rw [Nat.zero_add]; exact .ow (c := cc) (blk := w.heap.size) (if_pos rfl) q1 q2), hW2, by rw [put_defers]; exact (hr.df.app).mono (fun _ h => h) (Bl.add_mono hno)⟩
    · rename_i b n ks hsv
      split at h
      · rename_i kr nr f bt hb
        obtain ⟨⟨k1, k2, k3, rfl, rfl, rfl, rfl, k4, k5⟩, hK⟩ := h
        rw [hsv] at hs
        obtain ⟨S⟩ := asrc_spec hr.wd.seen hx hsrc k2
        have hzs : z'.cells.size = kr := by rw [← k3, hzero']; simp
        have hbl : b < st.h.length := (List.getElem?_eq_some_iff.1 hb).1
        generalize hv : a.eval s = v at hs
        rw [hv] at hrun
        -- the row, as it was
        obtain ⟨xs, hown, hx1, hx2, hx3, hrow⟩ : ∃ xs : List Value, w.ownsRow 0 bt kr v nr xs ∧ (∀ i, i < nr → (f i).length = kr) ∧ (∀ i j, i < nr → j < kr → (xs.getD (i * kr + j) undef).oneCell' = true) ∧
            (∀ i j x, i < nr → (f i)[j]? = some x → RepD g.H x (xs.getD (i * kr + j) undef)) ∧ (∀ k, v.ownBlock = some k → ∃ cc o, g.β b = some (k, cc) ∧ st.h[b]? = some o ∧ o.wr = true) := by
          cases hs with
          | ow hβ hc hm =>
            rename_i blk cc
            obtain ⟨cur, o1, o2, o3, o4, o6, o5⟩ := (hr.wd.obj b _ blk cc hb hβ).1
            have hN : nr * kr ≤ cur.size := by rw [o2]; exact Nat.mul_le_mul_right _ hc
            have hget : ∀ i j, i < nr → j < kr → (cur.toList.take (nr * kr)).getD (i * kr + j) undef = cur.getD (i * kr + j) undef := fun i j hi hj => (take_get rfl (lt_mul hi hj)).symm
            refine ⟨cur.toList.take (nr * kr), ⟨by simp; omega, .inr ⟨blk, cc, cur, rfl, Nat.zero_le _, o1, hc, hm, o2, rfl⟩⟩, o4, fun i j hi hj => by rw [hget i j hi hj]; exact o6 i j hi hj, fun i j x hi hx => ?_, fun k hk => ?_⟩
            · rw [hget i j hi (by have := (List.getElem?_eq_some_iff.1 hx).1; rwa [o4 i hi] at this)]; exact o5 i j x hi hx
            · simp only [Value.ownBlock, Option.some.injEq] at hk; subst hk; exact ⟨cc, _, hβ, hb, rfl⟩
          | owNil => exact ⟨[], ⟨by simp, .inl ⟨rfl, rfl⟩⟩, fun i hi => by omega, fun i j hi => by omega, fun i j x hi => by omega, fun k hk => by simp [Value.ownBlock] at hk⟩
        obtain ⟨v', w', e1, e2, e3, e4, e5⟩ := run_append_src hu hi' hz' (by rw [← hsz', k1]) hzs k2 S (ty := o.type) 0 v nr xs hown k4 (by rw [← hby']; exact k5) (Nat.zero_le _)
        refine hrun e1 ?_
        have hxl : xs.length = nr * kr := hown.1
        by_cases hnil : v' = .slice none 0 0
        · have hm0 := (e4.1 hnil)
          have hn0 : nr = 0 := by
            rcases hown.2 with h | ⟨g0, cap, cur, h, _⟩
            · exact h.2
            · rw [h] at hm0; cases hm0.1
          have hmz := hm0.2
          subst hmz; subst hn0
          have hW := hr.wd.grown hbl e3 hrow (o' := .row kr (0 + 0) (fun j => if j < 0 then f j else fx (j - 0)) bt) (y := none) (fun blk cc e => by cases e) rfl hb (fun e => by cases e)
          exact hn _ _ _ _ hK ⟨(hr.sl.kill b none).putS o.dst (by rw [hnil]; exact .owNil), hW, by rw [put_defers]; exact hr.df.grown hb (fun e => by cases e) _⟩
        · obtain ⟨blk, cc, rfl, q1, q2, q3, q4⟩ := row_of_owns S hxl hx1 hx2 hx3 e2 hnil
          have hW := hr.wd.grown hbl e3 hrow (o' := .row kr (nr + m) (fun j => if j < nr then f j else fx (j - nr)) bt) (y := some (blk, cc)) (fun blk' cc' e => by
            cases e
            refine ⟨?_, q3, ?_⟩
            · rcases e5 with e5 | e5
              · exact .inl e5.symm
              · simp only [Value.ownBlock, Option.some.injEq] at e5; exact .inr (by omega)
            · exact q4 _) rfl hb (fun e => by cases e)
          exact hn _ _ _ _ hK ⟨(hr.sl.kill b (some (blk, cc))).putS o.dst (.ow (c := cc) (blk := blk) (if_pos rfl) q1 q2), hW, by rw [put_defers]; exact hr.df.grown hb (fun e => by cases e) _⟩
      · cases h
    · cases h
  · cases h

theorem mput_shape {T : Nat → Option TI} {Q : Nat → Bool} {h h' : List HObj} {e : Operand → AV} {op : Op} (hm : mput T Q h e op = some h') : ∃ (b : Nat) (o o' : HObj), h[b]? = some o ∧ o.isMp = true ∧ o'.isMp = true ∧ h' = h.set b o' := by
  unfold mput at hm
  repeat' first | (cases hm; done) | split at hm
  · rename_i b _ _ zc za val has ps zs ag hob _ _ K d _ _
    cases hb : keyOK T Q _ zc za zs ag K with
    | false => rw [hb] at hm; cases hm
    | true => rw [hb, cond_true] at hm; cases hm; exact ⟨b, _, _, hob, rfl, rfl, rfl⟩
  · rename_i b id _ _ _ _ _ zc za val has ps zs ag b' K d hob _ _
    cases hb : (b' == b && keyOK T Q _ zc za zs ag K) with
    | false => rw [hb] at hm; cases hm
    | true => rw [hb, cond_true] at hm; cases hm; exact ⟨b, _, _, hob, rfl, rfl, rfl⟩

theorem mput_shape' {T : Nat → Option TI} {Q : Nat → Bool} {h h' : List HObj} {e : Operand → AV} {op : Op} (hm : mput T Q h e op = some h') : ∃ (b : Nat) (o o' : HObj), h[b]? = some o ∧ o.isMp = true ∧ o'.isMp = true ∧ h' = h.set b o' ∧ ∃ x ∈ op.operands.toList, e x = .mv b := by
  unfold mput at hm
  repeat' first | (cases hm; done) | split at hm
  · rename_i t m k x _ b hmv _ zc za val has ps zs ag hob _ _ K d _ _
    cases hb : keyOK T Q _ zc za zs ag K with
    | false => rw [hb] at hm; cases hm
    | true => rw [hb, cond_true] at hm; cases hm; exact ⟨b, _, _, hob, rfl, rfl, rfl, m, by simp [Op.operands], hmv⟩
  · rename_i t m s x _ _ b id hmv _ _ _ _ zc za val has ps zs ag b' K d hob _ _
    cases hb : (b' == b && keyOK T Q _ zc za zs ag K) with
    | false => rw [hb] at hm; cases hm
    | true => rw [hb, cond_true] at hm; cases hm; exact ⟨b, _, _, hob, rfl, rfl, rfl, m, by simp [Op.operands], hmv⟩

theorem Dfr.mput {T : Nat → Option TI} {Q : Nat → Bool} {E : Ctx} {h h' : List HObj} {β : Bl} {ds : List Deferred} {e : Operand → AV} {op : Op} (k : Dfr E h β ds) (hm : Jo.mput T Q h e op = some h') : Dfr E h' β ds := by
  obtain ⟨b, o, o', h1, h2, h3, rfl⟩ := mput_shape hm
  exact k.set h1 (fun e => by subst e; cases h2)

theorem awr_sound {rd : Option Nat} (hc : c.OK P) {E : Ctx} {st : St} {g : G} {a : Act} {w : World} {K : St → Prop} {o : Oper} (hd : ∀ t x y, o.op = .store t x y → o.dst = none) (hd' : isMW o.op = true → o.dst = none) (hr : Rel E st g a w) (h : awr c o st K)
    {next : Act → World → Prop} {Q : Exit → Act → World → Prop} (hn : ∀ st' g' a' w', K st' → Rel E st' g' a' w' → next a' w') : Oper.wpr rd P o a w next Q := by
  unfold awr at h
  split at h
  · rename_i t x y ho
    split at h
    · rename_i ti hti; exact astore_sound (hc.T _ _ hti) ho (hd _ _ _ ho) hr h hn
    · cases h
  · rename_i xs ts ho
    split at h
    · rename_i s x t t' hxs hts
      split at h
      · rename_i htt
        subst htt
        have e1 : xs = #[s, x] := by rw [← Array.toArray_toList (xs := xs), hxs]
        have e2 : ts = #[t, t] := by rw [← Array.toArray_toList (xs := ts), hts]
        subst e1; subst e2
        split at h
        · rename_i ti hti
          split at h
          · rename_i el hel
            split at h
            · rename_i te hte; exact aappend_sound (hc.T _ _ hti) hel (hc.T _ _ hte) ho hr h hn
            · cases h
          · cases h
        · cases h
      · cases h
    · cases h
  · rename_i t m k x ho
    split at h
    · rename_i h' hm
      rw [← ho] at hm
      obtain ⟨w', hrun, hW⟩ := mput_sound hc.T hc.Q hr.wd (fun x hx => ev_rep (fun t _ => hr.sl.looks t)) hm
      refine wpr_skip (fun c e => by rw [ho] at e; cases e) hrun (hn _ g _ w' h ?_)
      rw [hd' (by rw [ho]; rfl), Act.put_none]
      exact ⟨hr.sl, hW, hr.df.mput hm⟩
    · cases h
  · rename_i t m s x ho
    split at h
    · rename_i h' hm
      rw [← ho] at hm
      obtain ⟨w', hrun, hW⟩ := mput_sound hc.T hc.Q hr.wd (fun x hx => ev_rep (fun t _ => hr.sl.looks t)) hm
      refine wpr_skip (fun c e => by rw [ho] at e; cases e) hrun (hn _ g _ w' h ?_)
      rw [hd' (by rw [ho]; rfl), Act.put_none]
      exact ⟨hr.sl, hW, hr.df.mput hm⟩
    · cases h
  · cases h

end
end Go.Jo
