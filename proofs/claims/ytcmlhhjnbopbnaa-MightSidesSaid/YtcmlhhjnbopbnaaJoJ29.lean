/- Calls walked inline, ranges over functions: in the frames' judgement. Over any program. -/
import Derived.Test.YtcmlhhjnbopbnaaJoJ28
namespace Go.Jo
open Go.RowKit
set_option autoImplicit false
section
variable {P : Program} {c : Cfg} {nr : Bool} {K : Exit → St → Prop} {st : St} {fs gs : List Fm}

theorem W.ac {b : Code} (h : W c P nr [.c b] st K) : AC c P nr b st K := AC.close h

/-- The operation at the head. -/
abbrev hop (fs : List Fm) (hs : (opAt (nF fs)).isSome = true) : Oper := (opAt (nF fs)).get hs

/-- An operation under a guard. -/
theorem W.opG' (hs : (opAt (nF fs)).isSome = true) (ops : Array Oper) (k : Nat) (ho : opsAt (nF fs) = some (ops, k)) (j : Nat) (want gg : Bool) (x : AV) (hg : (hop fs hs).guard = some (j, want)) (hj : gof st.σ ops j want = some gg)
    (h : gg = true → OpS P (hop fs hs) st (fun s => W c P nr (adv 1 (nF fs)) s K)) (h0 : gg = false → W c P nr (adv 1 (nF fs)) ⟨putS st.σ (hop fs hs).dst (.opt gg x), st.h⟩ K) : W c P nr fs st K := by
  refine nf_ok (n := 2000) ?_
  show W c P nr (nF fs) st K
  unfold hop at *
  generalize nF fs = gs at *
  have hoo : opAt gs = ops[k]? := by unfold opAt; rw [ho]
  generalize hOO : (opAt gs).get hs = o at *
  have hok : ops[k]? = some o := by rw [← hoo, ← hOO]; simp
  refine W_of_ops ho ?_
  have hlt : k < ops.size := (Array.getElem?_eq_some_iff.1 hok).1
  have hd : ops.toList.drop k = o :: ops.toList.drop (k + 1) := by
    rw [List.drop_eq_getElem_cons (by simpa using hlt)]
    congr 1
    obtain ⟨_, he⟩ := Array.getElem?_eq_some_iff.1 hok
    simpa using he
  rw [hd]
  exact ROps.oneG x hg hj (fun e => (h e).mono (fun s hs => adv_W (n := 1) ho hs)) (fun e => adv_W (n := 1) ho (h0 e))

theorem W.opG (hs : (opAt (nF fs)).isSome = true) (ho : (opsAt (nF fs)).isSome = true) (j : Nat) (want gg : Bool) (x : AV) (hg : (hop fs hs).guard = some (j, want)) (hj : gof st.σ ((opsAt (nF fs)).get ho).1 j want = some gg)
    (h : gg = true → OpS P (hop fs hs) st (fun s => W c P nr (adv 1 (nF fs)) s K)) (h0 : gg = false → W c P nr (adv 1 (nF fs)) ⟨putS st.σ (hop fs hs).dst (.opt gg x), st.h⟩ K) : W c P nr fs st K :=
  W.opG' hs _ _ (Option.some_get ho).symm j want gg x hg hj h h0

def xseg1 (c : Cfg) (P : Program) (n s d : Nat) (want : Bool) (rs : List D) (us : List (Nat × AV)) (st : St) (fs : List Fm) : Option (List Prop × St) :=
  match opsAt fs with
  | some (ops, k) =>
    bif okStore ops.toList && dstOK st.σ.length ops.toList then
      match xrun c P ops ((ops.toList.drop k).take n) rs ⟨st, [(s, [(d, want)])], [s, d]⟩ with
      | some (ps, [], X) => some (ps, ⟨forgetL (deadL X.wr us) X.st.σ, X.st.h⟩)
      | _ => none
    else none
  | none => none

theorem inv1 {s d : Nat} {want gg : Bool} {x : AV} (hs : st.σ.getD s .junk = .opt gg x) (hd : bvS st.σ d = some (bif want then gg else !gg)) : XS.Inv ⟨st, [(s, [(d, want)])], [s, d]⟩ := by
  have key : ∀ s' L, lk [(s, [(d, want)])] s' = some L → s' = s ∧ L = [(d, want)] := by
    intro s' L h
    simp only [lk] at h
    cases hb : (s == s') with
    | true => rw [hb, cond_true] at h; cases h; exact ⟨(by simpa using hb : s = s').symm, rfl⟩
    | false => rw [hb, cond_false] at h; cases h
  refine ⟨fun s' L h => ?_, fun s' L h => ?_⟩
  · obtain ⟨rfl, rfl⟩ := key s' L h
    refine ⟨gg, x, hs, fun e => ⟨?_, trivial⟩, fun e => ?_⟩
    · rw [hd, e]; cases want <;> rfl
    · have := e.1
      rw [hd] at this
      cases want <;> cases gg <;> simp_all
  · obtain ⟨rfl, rfl⟩ := key s' L h
    exact ⟨by simp, fun y hy => by simp at hy; subst hy; simp⟩

/-- A segment; one slot has been filled under a guard before. -/
theorem W.s1 (hc : c.OK P) (n s d : Nat) (want gg : Bool) (x : AV) (hs : st.σ.getD s .junk = .opt gg x) (hd : bvS st.σ d = some (bif want then gg else !gg)) (rs : List D) (us : List (Nat × AV)) (hf : List HObj → List HObj) (ps : List Prop) (hx : xseg1 c P n s d want rs us st (nF fs) = some (ps, ⟨setm st.σ us, hf st.h⟩)) (hp : AllP ps) (hK : W c P nr (adv n (nF fs)) ⟨setm st.σ us, hf st.h⟩ K) : W c P nr fs st K := by
  refine nf_ok (n := 2000) ?_
  show W c P nr (nF fs) st K
  generalize nF fs = gs at *
  unfold xseg1 at hx
  split at hx
  · rename_i ops k ho
    cases hb : (okStore ops.toList && dstOK st.σ.length ops.toList) with
    | false => rw [hb] at hx; cases hx
    | true =>
      rw [hb, cond_true] at hx
      simp only [Bool.and_eq_true] at hb
      split at hx
      · rename_i qs X hrun
        simp only [Option.some.injEq, Prod.mk.injEq] at hx
        obtain ⟨rfl, hst⟩ := hx
        have hl : ∀ o ∈ (ops.toList.drop k).take n, ∀ d, o.dst = some d → d < st.σ.length := fun o ho d hd => by
          have := (List.all_eq_true.1 hb.2) o (List.mem_of_mem_drop (List.mem_of_mem_take ho))
          rw [hd] at this
          simpa using this
        obtain ⟨_, hs⟩ := xrun_sound hc (X := ⟨st, [(s, [(d, want)])], [s, d]⟩) hl (inv1 hs hd) hrun hp
        have hle : X.st.le ⟨setm st.σ us, hf st.h⟩ := by
          rw [← hst]
          exact St.le_forget _ rfl
        refine W_of_ops ho ?_
        have h1 : aops c P ops ((ops.toList.drop k).take n) st (fun s => s = X.st) := by
          have := hs (rest := []) (K := fun s => s = X.st) rfl
          rwa [List.append_nil] at this
        have := ROps.app hc hb.1 h1 (ROps.le hle (adv_W (n := n) ho hK))
        rwa [← List.drop_drop, List.take_append_drop] at this
      · cases hx
  · cases hx

/-- What lies aside. -/
def ghS (h : List HObj) (m : Nat) : List AV := match h[m]? with | some (.ghost σ _ _) => σ | _ => []
def lpS (h : List HObj) (b : Nat) : List AV := match h[b]? with | some (.lp _ _ _ σ) => σ | _ => []

theorem leK {st st' : St} (h : st = st') : st.le st' := by subst h; exact St.le_refl _

theorem OpS.leF {o : Oper} {C : St → Prop} (us : List (Nat × AV)) (fx : List (Nat × AV × AV)) (hc : CV fx) (h1 : getsA st.σ fx = fx.map (fun x => x.2.1))
    (h3 : (⟨forgetL (jOf (st.up us []).σ 0) (setm st.σ (fx.map fun x => (x.1, x.2.2))), (setH st.h []).take (st.up us []).h.length⟩ : St) = st.up us [])
    (h4 : (AV.ok.okL (st.up us []).h.length (st.up us []).σ && okAll (st.up us []).h.length (st.up us []).h && (st.h.drop (st.up us []).h.length).all HObj.nodf) = true) (h : OpS P o (st.up us []) C) : OpS P o st C :=
  OpS.le (St.leF fx hc [] trivial h1 rfl h3 h4) h

theorem Conv.unopt {b : Bool} {x : AV} (h : b = true) : Conv (.opt b x) x := fun H β v r => by
  cases r with
  | opt h1 h2 => exact h1 h

/-- A call's function, by its slot. -/
theorem OpS.callW (hc : c.OK P) {o : Oper} {K : St → Prop} {x : Operand} {xs : Array Operand} {ts : Array TypeId} {f : FuncId} {fn : Func} {caps : List AV} (avs : List AV) (ho : o.op = .call { callee := .value x, args := xs, argTypes := ts })
    (hx : ev st.σ x = .fn (.func f) [] caps) (hf : P.funcs[f]? = some fn) (hb : fn.body.isSome = true) (hname : fn.name ≠ "runtime.NumGoroutine") (hav : xs.toList.map (ev st.σ) = avs)
    (h : ∀ vs ds, W c P false [.c (bodyOf fn)] ⟨slots0 (avs ++ caps) fn.ntmps, st.h ++ [.ghost st.σ vs ds]⟩ (cend c fn.results.toList st.σ.length st.h.length vs ds o.dst K)) : OpS P o st K := by
  obtain ⟨b, hb'⟩ := Option.isSome_iff_exists.1 hb
  have hbo : bodyOf fn = b := by unfold bodyOf; rw [hb']
  rw [hbo] at h
  exact OpS.call hc ho hx hf hb' hname hav (fun vs ds => AC.close (h vs ds))

def isRF : List Fm → Option (Operand × Array Tmp × Code × Code)
  | .c (.rangeFunc g ps as bd) :: _ => some (g, ps, as, bd)
  | _ => none

theorem W.rf' (hc : c.OK P) {gO : Operand} {ps : Array Tmp} {asg bd : Code} {f : FuncId} {fn : Func} {caps : List AV} (hi : isRF (nF fs) = some (gO, ps, asg, bd)) (hx : ev st.σ gO = .fn (.func f) [] caps) (hf : P.funcs[f]? = some fn) (hb : fn.body.isSome = true)
    (hname : fn.name ≠ "runtime.NumGoroutine")
    (h : ∀ (L : Loop) vs ds, L.params = ps → L.assign = asg → L.body = bd → W c P false [.c (bodyOf fn)] ⟨slots0 (.yl (st.h.length + 1) :: caps) fn.ntmps, st.h ++ [.df, .lp .ready none L st.σ, .ghost [.yl (st.h.length + 1)] vs ds]⟩ (rend c P fn.results.toList st.σ.length st.h.length L vs ds (FK c P true (nF fs).tail K))) :
    W c P true fs st K := by
  obtain ⟨b, hb'⟩ := Option.isSome_iff_exists.1 hb
  have hbo : bodyOf fn = b := by unfold bodyOf; rw [hb']
  rw [hbo] at h
  refine nf_ok (n := 2000) ?_
  show W c P true (nF fs) st K
  generalize nF fs = gs at *
  unfold isRF at hi
  split at hi
  · cases hi
    exact AC.rangeFunc hc hx hf hb' hname (fun L vs ds h1 h2 h3 => AC.close (h L vs ds h1 h2 h3))
  · cases hi

theorem W.rf (hc : c.OK P) {f : FuncId} {fn : Func} {caps : List AV} (hi : (isRF (nF fs)).isSome = true) (hx : ev st.σ ((isRF (nF fs)).get hi).1 = .fn (.func f) [] caps) (hf : P.funcs[f]? = some fn) (hb : fn.body.isSome = true)
    (hname : fn.name ≠ "runtime.NumGoroutine")
    (h : ∀ (L : Loop) vs ds, L.params = ((isRF (nF fs)).get hi).2.1 → L.assign = ((isRF (nF fs)).get hi).2.2.1 → L.body = ((isRF (nF fs)).get hi).2.2.2 →
      W c P false [.c (bodyOf fn)] ⟨slots0 (.yl (st.h.length + 1) :: caps) fn.ntmps, st.h ++ [.df, .lp .ready none L st.σ, .ghost [.yl (st.h.length + 1)] vs ds]⟩ (rend c P fn.results.toList st.σ.length st.h.length L vs ds (FK c P true (nF fs).tail K))) :
    W c P true fs st K :=
  W.rf' hc (gO := ((isRF (nF fs)).get hi).1) (ps := ((isRF (nF fs)).get hi).2.1) (asg := ((isRF (nF fs)).get hi).2.2.1) (bd := ((isRF (nF fs)).get hi).2.2.2) (Option.some_get hi).symm hx hf hb hname h

/-! ### ends -/
/-- How the code ends here. -/
def endE : List Fm → Option Exit
  | [] => some .normal
  | [.r] => some .ret
  | _ => none

theorem W_end {e : Exit} (he : endE (nF fs) = some e) (h : K e st) : W c P nr fs st K := by
  refine nf_ok (n := 2000) ?_
  show W c P nr (nF fs) st K
  generalize nF fs = gs at *
  unfold endE at he
  split at he
  · cases he; exact ⟨st, St.le_refl _, h⟩
  · cases he; exact ⟨st, St.le_refl _, h⟩
  · cases he

theorem W.ce {res : List ResultVar} {n m : Nat} {vs : Array Value} {ds : List Deferred} {dst : Option Tmp} {C : St → Prop} (rs : List AV) (he : endsB (nF fs) = true) (hl : xres c st res = some rs) (hm : st.h[m]? = some (.ghost (ghS st.h m) vs ds)) (hn : (ghS st.h m).length = n)
    (hK : C ⟨putS (ghS st.h m) dst (packA rs), st.h.set m .dead⟩) : W c P nr fs st (cend c res n m vs ds dst C) := by
  have key : ares c st res fun rs => ∃ σ', (st.h[m]? = some (.ghost σ' vs ds) ∧ σ'.length = n) ∧ C ⟨putS σ' dst (packA rs), st.h.set m .dead⟩ := xres_ok hl ⟨_, ⟨hm, hn⟩, hK⟩
  have h2 : endE (nF fs) = some .normal ∨ endE (nF fs) = some .ret := by
    generalize nF fs = gs at *
    unfold endsB at he
    split at he
    · exact .inl rfl
    · exact .inr rfl
    · cases he
  rcases h2 with h2 | h2
  · exact W_end h2 key
  · exact W_end h2 key

theorem W.ym {n m b : Nat} {L : Loop} {bd : Code} {vs : Array Value} {ds : List Deferred} {dst : Option Tmp} {C : St → Prop} (he : endE (nF fs) = some .normal) (hb : st.h[b]? = some (.lp .ready none L (lpS st.h b))) (hm : st.h[m]? = some (.ghost (.yl b :: (ghS st.h m).tail) vs ds))
    (hA : W c P false [.c bd] ⟨st.σ, st.h.set b (.lp .busy none L (lpS st.h b))⟩ (yend n m b L vs ds dst C)) : W c P nr fs st (ymid c P n m b L bd vs ds dst C) :=
  W_end he ⟨none, _, _, ⟨hb, hm⟩, AC.close hA⟩

theorem W.yn {n m b : Nat} {L : Loop} {vs : Array Value} {ds : List Deferred} {dst : Option Tmp} {C : St → Prop} (he : endE (nF fs) = some .normal) (hb : st.h[b]? = some (.lp .busy none L (lpS st.h b))) (hm : st.h[m]? = some (.ghost (.yl b :: (ghS st.h m).tail) vs ds)) (hn : (ghS st.h m).tail.length = n)
    (hK : C ⟨putS (ghS st.h m).tail dst (.d (.v (.bool true))), (st.h.set b (.lp .ready none L (lpS st.h b))).set m .dead⟩) : W c P nr fs st (yend n m b L vs ds dst C) :=
  W_end he (yend_n _ _ _ hb hm hn rfl hK)

theorem W.re {res : List ResultVar} {n m : Nat} {L : Loop} {vs : Array Value} {ds : List Deferred} {K' : Exit → St → Prop} (rs : List AV) (he : endsB (nF fs) = true) (hl : xres c st res = some rs) (hb : st.h[m + 1]? = some (.lp .ready none L (lpS st.h (m + 1)))) (hm : st.h[m + 2]? = some (.ghost [.yl (m + 1)] vs ds)) (hn : (lpS st.h (m + 1)).length = n)
    (hK : W c P true gs ⟨lpS st.h (m + 1), (st.h.set (m + 1) .dead).set (m + 2) .dead⟩ K') : W c P nr fs st (rend c P res n m L vs ds (FK c P true gs K')) := by
  have key : ∀ e, (e = .normal ∨ e = .ret) → rend c P res n m L vs ds (FK c P true gs K') e st := fun e h => ⟨h, xres_ok hl ⟨.ready, none, _, ⟨hb, (fun e => by cases e), hm, hn⟩, hK⟩⟩
  have h2 : endE (nF fs) = some .normal ∨ endE (nF fs) = some .ret := by
    generalize nF fs = gs at *
    unfold endsB at he
    split at he
    · exact .inl rfl
    · exact .inr rfl
    · cases he
  rcases h2 with h2 | h2
  · exact W_end h2 (key _ (.inl rfl))
  · exact W_end h2 (key _ (.inr rfl))

/-- A round. -/
theorem OpS.yieldW (hc : c.OK P) {o : Oper} {K : St → Prop} {x : Operand} {xs : Array Operand} {ts : Array TypeId} (b : Nat) {L : Loop} {ps : Array Tmp} {as bd : Code} (avs : List AV)
    (hp : L.params = ps) (hAs : L.assign = as) (hBd : L.body = bd) (ho : o.op = .call { callee := .value x, args := xs, argTypes := ts })
    (hx : ev st.σ x = .yl b) (hb : st.h[b]? = some (.lp .ready none L (lpS st.h b))) (hav : xs.toList.map (ev st.σ) = avs) (hsz : xs.size = ps.size)
    (h : ∀ vs ds, W c P false [.c as] ⟨setL ps.toList avs (lpS st.h b), st.h ++ [.ghost (.yl b :: st.σ) vs ds]⟩ (ymid c P st.σ.length st.h.length b L bd vs ds o.dst K)) : OpS P o st K :=
  OpS.yield hc hp hAs hBd ho hx hb hav hsz (fun vs ds => AC.close (h vs ds))
end
end Go.Jo
