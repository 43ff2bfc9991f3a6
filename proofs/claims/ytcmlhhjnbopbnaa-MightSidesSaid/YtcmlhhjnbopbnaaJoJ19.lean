/- Ranges over functions: the statement, the rounds. Over any program. -/
import Derived.Test.YtcmlhhjnbopbnaaJoJ18
namespace Go.Jo
open Go.RowKit
set_option autoImplicit false

section
variable {P : Program} {c : Cfg} {nr : Bool}

theorem wpr_round {rd : Option Nat} {o : Oper} {a : Act} {w w' : World} {next : Act → World → Prop} {Q : Exit → Act → World → Prop} (hd : ∀ c, o.op ≠ .defer c) {l : Nat} {f : FuncId} {tmps : Array Value} {as bd : Code}
    (h : (execOp a.eval o).run P w = .ok (.round l f tmps as bd) w') (hn : RoundIn (FR rd) 0 P l f tmps as bd w' fun e w'' => ∃ v, e = .returned v ∧ next (a.put o.dst v) w'') : Oper.wpr rd P o a w next Q :=
  ⟨fun _ _ => trivial, by
    rw [Oper.semAt_eq _ _ _ hd, h]
    refine ⟨fun h => (by cases h), RoundIn.mono hn ?_⟩
    rintro e w'' ⟨v, rfl, hv⟩
    exact hv⟩

def setL : List Tmp → List AV → List AV → List AV
  | t :: ts, x :: xs, σ => setL ts xs (σ.set t x)
  | _, _, σ => σ

def setV : List Tmp → List Value → Array Value → Array Value
  | t :: ts, x :: xs, σ => setV ts xs (σ.setIfInBounds t x)
  | _, _, σ => σ

theorem setV_eq : ∀ (ts : List Tmp) (xs : List Value) (σ : Array Value), (ts.zip xs).foldl (fun tmps (x : Tmp × Value) => tmps.setIfInBounds x.1 x.2) σ = setV ts xs σ
  | [], _, _ => rfl
  | _ :: _, [], _ => rfl
  | t :: ts, x :: xs, σ => by simp only [List.zip_cons_cons, List.foldl_cons, setV]; exact setV_eq ts xs _

theorem setV_arr (ts : Array Tmp) (xs : Array Value) (σ : Array Value) : (ts.zip xs).foldl (fun tmps (x : Tmp × Value) => tmps.setIfInBounds x.1 x.2) σ = setV ts.toList xs.toList σ := by
  rw [← setV_eq, ← Array.foldl_toList, Array.toList_zip]

theorem setL_sl {g : G} : ∀ (ts : List Tmp) (xs : List AV) (vs : List Value) (σ : List AV) (tm : Array Value), xs.length = vs.length → (∀ (i : Nat) x v, xs[i]? = some x → vs[i]? = some v → Rep g.H g.β x v) → Sl σ g { tmps := tm, defers := [] } →
    Sl (setL ts xs σ) g { tmps := setV ts vs tm, defers := [] }
  | [], _, _, _, _, _, _, h => h
  | t :: ts, [], [], _, _, _, _, h => h
  | t :: ts, x :: xs, v :: vs, σ, tm, hl, hr, h => setL_sl ts xs vs _ _ (by simpa using hl) (fun i x v hx hv => hr (i + 1) x v (by simpa using hx) (by simpa using hv)) (h.put t (hr 0 x v rfl rfl))
  | t :: ts, [], v :: vs, _, _, hl, _, _ => by simp at hl
  | t :: ts, x :: xs, [], _, _, hl, _, _ => by simp at hl

theorem Rep.yl_inv {H : Mem} {β : Bl} {b : Nat} {v : Value} (h : Rep H β (.yl b) v) : ∃ blk cc, v = .func (.yield blk) #[] #[] ∧ β b = some (blk, cc) := by
  cases h with
  | yl h => exact ⟨_, _, rfl, h⟩

theorem y0 (v : Value) (t : Array Value) : (#[v] ++ t).getD 0 undef = v := by rw [Array.getD_eq_getD_getElem?, Array.getElem?_append_left (by simp)]; rfl
theorem y1 (v : Value) (t : Array Value) (j : Nat) : (#[v] ++ t).getD (j + 1) undef = t.getD j undef := by rw [Array.getD_eq_getD_getElem?, Array.getD_eq_getD_getElem?, Array.getElem?_append_right (by simp)]; simp

/-- A round's end: the one who called it goes on. -/
def yend (n m b : Nat) (L : Loop) (vs : Array Value) (ds : List Deferred) (dst : Option Tmp) (K : St → Prop) (e : Exit) (s : St) : Prop :=
  ∃ p σ1 σ', (s.h[b]? = some (.lp .busy p L σ1) ∧ s.h[m]? = some (.ghost (.yl b :: σ') vs ds) ∧ σ'.length = n) ∧
    match e with
    | .normal => K ⟨putS σ' dst (.d (.v (.bool true))), (s.h.set b (.lp .ready none L σ1)).set m .dead⟩
    | .ret => K ⟨putS σ' dst (.d (.v (.bool false))), (s.h.set b (.lp .done (some .ret) L σ1)).set m .dead⟩
    | .exit i => K ⟨putS σ' dst (.d (.v (.bool false))), (s.h.set b (.lp .done (some (.exit i)) L σ1)).set m .dead⟩
    | _ => False

/-- Between the assignment and the body. -/
def ymid (c : Cfg) (P : Program) (n m b : Nat) (L : Loop) (bd : Code) (vs : Array Value) (ds : List Deferred) (dst : Option Tmp) (K : St → Prop) (e : Exit) (s : St) : Prop :=
  match e with
  | .normal => ∃ p σ1 σ', (s.h[b]? = some (.lp .ready p L σ1) ∧ s.h[m]? = some (.ghost (.yl b :: σ') vs ds)) ∧ AC c P false bd ⟨s.σ, s.h.set b (.lp .busy p L σ1)⟩ (yend n m b L vs ds dst K)
  | _ => False

theorem Wd.putObj {E : Ctx} {h : List HObj} {g : G} {w : World} (r : Wd E h g w) {b blk cc : Nat} {o o' : HObj} {ob : Obj} (ho : h[b]? = some o) (hβ : g.β b = some (blk, cc)) (hwr : o.wr = true) (hgf : o'.gfree = true) (hnd : o ≠ .df)
    (hr : ObjRep g.H g.β (w.putObj blk ob) blk cc o') (hmp : o.isMp = false := by rfl) : Wd E (h.set b o') g (w.putObj blk ob) :=
  r.set ho hβ hwr (fun k hk => World.putObj_heap_other hk) World.putObj_size rfl rfl rfl hr hgf hnd hmp

theorem OpS.yield (hc : c.OK P) {o : Oper} {st : St} {K : St → Prop} {x : Operand} {xs : Array Operand} {ts : Array TypeId} {b : Nat} {p : Option Code} {L : Loop} {σr avs : List AV} {ps : Array Tmp} {as bd : Code}
    (hp : L.params = ps) (hAs : L.assign = as) (hBd : L.body = bd) (ho : o.op = .call { callee := .value x, args := xs, argTypes := ts })
    (hx : ev st.σ x = .yl b) (hb : st.h[b]? = some (.lp .ready p L σr)) (hav : xs.toList.map (ev st.σ) = avs) (hsz : xs.size = ps.size)
    (h : ∀ vs ds, AC c P false as ⟨setL ps.toList avs σr, st.h ++ [.ghost (.yl b :: st.σ) vs ds]⟩ (ymid c P st.σ.length st.h.length b L bd vs ds o.dst K)) : OpS P o st K := by
  intro rd E g a w next Q hr hn
  have hrep : Rep g.H g.β (ev st.σ x) (a.eval x) := ev_rep (fun t _ => hr.sl.looks t)
  rw [hx] at hrep
  obtain ⟨blk, cc, hv, hβ⟩ := hrep.yl_inv
  obtain ⟨ha1, ha2⟩ := args_rep hr.sl hav
  obtain ⟨hob, hts, htr⟩ := (hr.wd.obj b _ blk cc hb hβ).1
  have hy := run_yield (P := P) (args := xs.map a.eval) hob (by simp [hp, hsz])
  have hrun : (execOp a.eval o).run P w = .ok (.round blk L.fn (setV ps.toList (xs.map a.eval).toList L.tmps) as bd) w := by
    rw [← setV_arr, ← hp, ← hAs, ← hBd]
    simp only [execOp, ho, resolve, hv, Deferred.ofValue, invoke]
    simpa using hy
  refine wpr_round (fun c e => by rw [ho] at e; cases e) hrun ?_
  let R : Ending → World → Prop := fun e w'' => ∃ v, e = .returned v ∧ next (a.put o.dst v) w''
  have hgh : Wd E (st.h ++ [.ghost (.yl b :: st.σ) (#[.func (.yield blk) #[] #[]] ++ a.tmps) a.defers]) g w := hr.wd.ghost (fun j y hy => by
    cases j with
    | zero => simp at hy; subst hy; rw [y0]; exact .yl hβ
    | succ j =>
      have := hr.sl.at_ j y (by simpa using hy)
      rwa [show (#[Value.func (.yield blk) #[] #[]] ++ a.tmps).getD (j + 1) undef = a.tmps.getD j undef by rw [Array.getD_eq_getD_getElem?, Array.getD_eq_getD_getElem?, Array.getElem?_append_right (by simp)]; simp]) hr.df.2.2
  refine roundIn_of_wpIn (F := FR rd) trivial ?_
  refine h (#[.func (.yield blk) #[] #[]] ++ a.tmps) a.defers (some blk) { E with nm := true } g _ w _ (fun e => by cases e) ⟨setL_sl _ _ _ _ _ (by rw [← ha1]; simp) (fun i y v hy hv => ?_) ⟨hts, htr⟩, hgh.nm true, ⟨List.nodup_nil, fun _ => rfl, fun d hd => by simp at hd⟩⟩ (fun e s g1 a1 w1 hk hr1 => ?_)
  · have := ha2 i y hy
    rwa [Array.getD_eq_getD_getElem?, ← Array.getElem?_toList, hv] at this
  cases e with
  | normal =>
    obtain ⟨p1, σ1, σ', ⟨k1, k2⟩, hA⟩ := hk
    obtain ⟨g1a, _⟩ := hr1.wd.gh _ _ _ _ k2
    have hy1 := g1a 0 (.yl b) rfl
    rw [show (#[Value.func (.yield blk) #[] #[]] ++ a.tmps).getD 0 undef = .func (.yield blk) #[] #[] by rw [Array.getD_eq_getD_getElem?, Array.getElem?_append_left (by simp)]; rfl] at hy1
    obtain ⟨blk', cc1, e1, hβ1⟩ := hy1.yl_inv
    simp only [Value.func.injEq, Fn.yield.injEq, and_true] at e1
    subst e1
    obtain ⟨o1, o2, o3⟩ := (hr1.wd.obj b _ blk cc1 k1 hβ1).1
    refine ⟨_, run_beginRound o1 rfl, ?_⟩
    have hlt := (hr1.wd.lt b blk cc1 hβ1).2
    refine hA (some blk) { E with nm := true } g1 a1 _ _ (fun e => by cases e) ⟨hr1.sl, hr1.wd.putObj k1 hβ1 rfl rfl (fun e => by cases e) ⟨World.putObj_heap_same hlt, o2, o3⟩, hr1.df.set k1 (fun e => by cases e)⟩ (fun e2 s2 g2 a2 w2 hk2 hr2 => ?_)
    obtain ⟨p2, σ2, σ3, ⟨q1, q2, q3⟩, hK⟩ := hk2
    obtain ⟨g2a, g2b⟩ := hr2.wd.gh _ _ _ _ q2
    have hy2 := g2a 0 (.yl b) rfl
    rw [show (#[Value.func (.yield blk) #[] #[]] ++ a.tmps).getD 0 undef = .func (.yield blk) #[] #[] by rw [Array.getD_eq_getD_getElem?, Array.getElem?_append_left (by simp)]; rfl] at hy2
    obtain ⟨blk', cc2, e2', hβ2⟩ := hy2.yl_inv
    simp only [Value.func.injEq, Fn.yield.injEq, and_true] at e2'
    subst e2'
    obtain ⟨r1, r2, r3⟩ := (hr2.wd.obj b _ blk cc2 q1 hβ2).1
    have hlt2 := (hr2.wd.lt b blk cc2 hβ2).2
    have hsl : Sl σ3 g2 a := ⟨by rw [hr.sl.size, q3], fun j y hy => by
      have := g2a (j + 1) y (by simpa using hy)
      rwa [show (#[Value.func (.yield blk) #[] #[]] ++ a.tmps).getD (j + 1) undef = a.tmps.getD j undef by rw [Array.getD_eq_getD_getElem?, Array.getD_eq_getD_getElem?, Array.getElem?_append_right (by simp)]; simp] at this⟩
    have hne : b ≠ st.h.length := fun e => by rw [e, q2] at q1; cases q1
    have fin : ∀ (jump : Option Code) (st' : LoopState) (v : Bool), st' = (if jump.isNone then .ready else .done) → v = jump.isNone → K ⟨putS σ3 o.dst (.d (.v (.bool v))), (s2.h.set b (.lp st' jump L σ2)).set st.h.length .dead⟩ →
        ∃ v w', (Instr.endRound blk jump).run P w2 = .ok v w' ∧ R (.returned v) w' := by
      intro jump st' v e1 e2 hK
      subst e1; subst e2
      refine ⟨_, _, run_endRound jump r1, _, rfl, hn _ g2 _ _ hK ⟨hsl.putS o.dst (.d (.v rfl)), ?_, ?_⟩⟩
      · refine Wd.bury (Wd.un (hr2.wd.putObj (o' := .lp (if jump.isNone then .ready else .done) jump L σ2) q1 hβ2 rfl rfl (fun e => by cases e) ⟨World.putObj_heap_same hlt2, r2, r3⟩)) (xs := .yl b :: σ3) (vs := #[.func (.yield blk) #[] #[]] ++ a.tmps) (ds := a.defers) ?_
        rw [List.getElem?_set_ne hne]
        exact q2
      · rw [put_defers]
        refine ⟨hr.df.1, hr.df.2.1, (g2b.set q1 (fun e => by cases e)).set (o := .ghost (.yl b :: σ3) (#[.func (.yield blk) #[] #[]] ++ a.tmps) a.defers) ?_ (fun e => by cases e)⟩
        rw [List.getElem?_set_ne hne]
        exact q2
    cases e2 with
    | normal => exact fin none .ready true rfl rfl hK
    | ret => exact fin (some .ret) .done false rfl rfl hK
    | exit i => exact fin (some (.exit i)) .done false rfl rfl hK
    | goto l => exact hK.elim
    | panic ch => exact hK.elim
    | outgrown => exact hK.elim
  | _ => exact hk.elim

/-- The end of the function that was ranged over. -/
def rend (c : Cfg) (P : Program) (res : List ResultVar) (n m : Nat) (L : Loop) (vs : Array Value) (ds : List Deferred) (K : Exit → St → Prop) (e : Exit) (s : St) : Prop :=
  (e = .normal ∨ e = .ret) ∧ ares c s res fun _ => ∃ st p σ', (s.h[m + 1]? = some (.lp st p L σ') ∧ st ≠ .busy ∧ s.h[m + 2]? = some (.ghost [.yl (m + 1)] vs ds) ∧ σ'.length = n) ∧
    match p with
    | none => K .normal ⟨σ', (s.h.set (m + 1) .dead).set (m + 2) .dead⟩
    | some j => AC c P true j ⟨σ', (s.h.set (m + 1) .dead).set (m + 2) .dead⟩ K

theorem AC.rangeFunc (hc : c.OK P) {gO : Operand} {ps : Array Tmp} {asg bd : Code} {st : St} {K : Exit → St → Prop} {f : FuncId} {fn : Func} {fb : Code} {caps : List AV} (hx : ev st.σ gO = .fn (.func f) [] caps) (hf : P.funcs[f]? = some fn) (hb : fn.body = some fb)
    (hname : fn.name ≠ "runtime.NumGoroutine")
    (h : ∀ (L : Loop) vs ds, L.params = ps → L.assign = asg → L.body = bd → AC c P false fb ⟨slots0 (.yl (st.h.length + 1) :: caps) fn.ntmps, st.h ++ [.df, .lp .ready none L st.σ, .ghost [.yl (st.h.length + 1)] vs ds]⟩ (rend c P fn.results.toList st.σ.length st.h.length L vs ds K)) :
    AC c P true (.rangeFunc gO ps asg bd) st K := fun rd E g a w Q hN hr hK => by
  obtain ⟨rfl, hnm⟩ := hN rfl
  refine wpIn_rangeFunc (F := FR none) ?_
  intro fnid _
  have hrep : Rep g.H g.β (ev st.σ gO) (a.eval gO) := ev_rep (fun t _ => hr.sl.looks t)
  rw [hx] at hrep
  obtain ⟨us, hv, hu1, hu2⟩ := hrep.fn_inv
  have hok : FnOK P f := ⟨fn, hf, hname, by rw [hb]; simp⟩
  obtain ⟨L, hL⟩ : ∃ L : Loop, L = { state := .ready, pending := none, fn := fnid, tmps := a.tmps, params := ps, assign := asg, body := bd, defers := w.heap.size } := ⟨_, rfl⟩
  have hL0 : ({ L with state := .ready, pending := none } : Loop) = L := by rw [hL]
  have hLt : L.tmps = a.tmps := by rw [hL]
  obtain ⟨w1, hw1⟩ : ∃ w1 : World, w1 = (w.alloc (.deferred (some []))).alloc (.loop L) := ⟨_, rfl⟩
  obtain ⟨l, hl0⟩ : ∃ l, l = w.heap.size + 1 := ⟨_, rfl⟩
  refine ⟨l, [{ target := .collected w.heap.size, args := #[] }], w1, { target := .fn (.func f) us, args := #[.func (.yield l) #[] #[]] }, w1, f, #[.func (.yield l) #[] #[]] ++ us, w1, by rw [hw1, hL, hl0]; exact run_enterLoop_outer _ _ _ _ _, ?_, fun _ _ => trivial, ?_, fun e => (by cases e), ?_⟩
  · simp only [resolve, hv]
    simp [Deferred.ofValue, Act.eval]
  · simp [invoke, run_callFunc hok]
  -- the world with the two blocks
  have hm0 : g.β st.h.length = none := hr.wd.none_of_le _ (Nat.le_refl _)
  have hm1 : g.β (st.h.length + 1) = none := hr.wd.none_of_le _ (by omega)
  have hW := hr.wd.more [.df, .lp .ready none L st.σ] (by simp [HObj.gfree])
  have hA := hW.alloc st.h.length 0 hm0 (by simp) (.deferred (some [])) (fun ob hob => by
    simp at hob; subst hob
    exact heap_alloc_self _ _)
  have hβ1 : (g.β.add st.h.length w.heap.size 0) (st.h.length + 1) = none := by
    unfold Bl.add; rw [if_neg (by omega)]; exact hm1
  have hB := hA.alloc (st.h.length + 1) 0 hβ1 (by simp) (.loop L) (fun ob hob => by
    rw [List.getElem?_append_right (by omega)] at hob
    simp at hob; subst hob
    refine ⟨by rw [hL0]; exact heap_alloc_self _ _, by rw [hLt]; exact hr.sl.size, fun i x hx => ?_⟩
    rw [hLt]
    exact ((hr.sl.at_ i x hx).mono (fun _ _ h => h) (Bl.add_mono hm0)).mono (fun _ _ h => h) (Bl.add_mono hβ1))
  have hl : (w.alloc (.deferred (some []))).heap.size = l := by rw [World.size_alloc, hl0]
  rw [hl, ← hw1] at hB
  let g1 : G := ⟨g.H, (g.β.add st.h.length w.heap.size 0).add (st.h.length + 1) l 0⟩
  have hmono : ∀ b x, g.β b = some x → g1.β b = some x := fun b x hbx => Bl.add_mono hβ1 b x (Bl.add_mono hm0 b x hbx)
  let ds : List Deferred := { target := .collected w.heap.size, args := #[] } :: a.defers
  have hmk : Mks (st.h ++ [.df, .lp .ready none L st.σ]) g1.β ds := fun d hd => by
    rcases List.mem_cons.1 hd with rfl | hd
    · refine ⟨st.h.length, w.heap.size, 0, rfl, by simp, ?_⟩
      show ((g.β.add st.h.length w.heap.size 0).add (st.h.length + 1) l 0) st.h.length = _
      unfold Bl.add; rw [if_neg (by omega), if_pos rfl]
    · obtain ⟨i, blk, cc, k1, k2, k3⟩ := hr.df.2.2 d hd
      exact ⟨i, blk, cc, k1, by rw [List.getElem?_append_left (List.getElem?_eq_some_iff.1 k2).1]; exact k2, hmono _ _ k3⟩
  have hG : Wd E ((st.h ++ [.df, .lp .ready none L st.σ]) ++ [.ghost [.yl (st.h.length + 1)] #[.func (.yield l) #[] #[]] ds]) g1 w1 := Wd.ghost hB (fun j x hx => by
    cases j with
    | zero =>
      simp at hx; subst hx
      exact .yl (c := 0) (by show ((g.β.add st.h.length w.heap.size 0).add (st.h.length + 1) l 0) (st.h.length + 1) = _; unfold Bl.add; rw [if_pos rfl])
    | succ j => simp at hx) hmk
  rw [List.append_assoc] at hG
  have hAC := h L #[.func (.yield l) #[] #[]] ds (by rw [hL]) (by rw [hL]) (by rw [hL])
  obtain ⟨R, hR⟩ : ∃ R, R = rangePost (FR none) 0 P l Q { a with defers := ds } := ⟨_, rfl⟩
  have goal : Calls P f (#[.func (.yield l) #[] #[]] ++ us) w1 R := by
   refine calls_inline hc hf hb (E := E) (g := g1) (args := .yl (st.h.length + 1) :: caps) ?_ ?_ hG hAC (fun e s g' w' hk hw => ?_)
   · simp [hu1]; omega
   · intro i x hx
     cases i with
     | zero =>
       simp at hx; subst hx
       rw [show (#[Value.func (.yield l) #[] #[]] ++ us).getD 0 undef = .func (.yield l) #[] #[] by rw [Array.getD_eq_getD_getElem?, Array.getElem?_append_left (by simp)]; rfl]
       exact .yl (c := 0) (by show ((g.β.add st.h.length w.heap.size 0).add (st.h.length + 1) l 0) (st.h.length + 1) = _; unfold Bl.add; rw [if_pos rfl])
     | succ i =>
       rw [show (#[Value.func (.yield l) #[] #[]] ++ us).getD (i + 1) undef = us.getD i undef by rw [Array.getD_eq_getD_getElem?, Array.getD_eq_getD_getElem?, Array.getElem?_append_right (by simp)]; simp]
       exact (hu2 i x (by simpa using hx)).mono (fun _ _ h => h) hmono
   obtain ⟨he, hres⟩ := hk
   refine ⟨he, ares_mono ?_ hres⟩
   rintro rs ⟨st', p, σ', ⟨k1, k2, k3, k4⟩, hKK⟩ us' _ _
   obtain ⟨ga, gb⟩ := hw.gh _ _ _ _ k3
   obtain ⟨blk', cc1, e1, hβ'⟩ := (ga 0 _ rfl).yl_inv
   simp only [Array.getD_eq_getD_getElem?, List.getElem?_toArray, List.getElem?_cons_zero, Option.getD_some, Value.func.injEq, Fn.yield.injEq, and_true] at e1
   subst e1
   obtain ⟨o1, o2, o3⟩ := (hw.obj _ _ l cc1 k1 hβ').1
   have hlt := (hw.lt _ _ _ hβ').2
   rw [hR]
   refine ⟨_, _, run_endLoop o1 k2, ?_⟩
   have hrel : Rel E ⟨σ', (s.h.set (st.h.length + 1) .dead).set (st.h.length + 2) .dead⟩ g' { a with defers := ds } (w'.putObj l (.loop { { L with state := st', pending := p } with state := .exhausted })) := by
     have k3' : (s.h.set (st.h.length + 1) .dead)[st.h.length + 2]? = some (.ghost [.yl (st.h.length + 1)] #[.func (.yield l) #[] #[]] ds) := by rw [List.getElem?_set_ne (by omega)]; exact k3
     refine ⟨⟨by rw [← hLt]; exact o2, by rw [← hLt]; exact o3⟩, ?_, ?_⟩
     · exact Wd.bury (hw.putObj (o' := .dead) k1 hβ' rfl rfl (fun e => by cases e) trivial) k3'
     · refine ⟨?_, fun e => (by rw [hnm] at e; cases e), (gb.set k1 (fun e => by cases e)).set k3' (fun e => by cases e)⟩
       refine List.nodup_cons.2 ⟨fun hd => ?_, hr.df.1⟩
       obtain ⟨i, blk, cc, q1, q2, q3⟩ := hr.df.2.2 _ hd
       simp only [Deferred.mk.injEq, Target.collected.injEq, and_true] at q1
       subst q1
       have := (hr.wd.lt _ _ _ q3).2
       omega
   cases p with
   | none => exact hK _ _ _ _ _ hKK hrel
   | some j => exact hKK none E g' _ _ Q (fun _ => ⟨rfl, hnm⟩) hrel hK
  rw [hR] at goal
  exact callsIn_FR goal

end
end Go.Jo
