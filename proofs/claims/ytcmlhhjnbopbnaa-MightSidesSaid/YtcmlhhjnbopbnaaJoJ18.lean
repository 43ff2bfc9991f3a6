/- Calls walked inline over the same heap; ranges over functions. Over any program. -/
import Derived.Test.YtcmlhhjnbopbnaaJoJ17
import Derived.RangeFuncIn
namespace Go.Jo
open Go.RowKit
set_option autoImplicit false

section
variable {P : Program} {c : Cfg} {nr : Bool}

/-! ### regions by meaning -/
def ROps (P : Program) (ops : Array Oper) (rest : List Oper) (st : St) (K : St → Prop) : Prop :=
  ∀ (rd : Option Nat) (E : Ctx) (g : G) (a : Act) (w : World) (k : Nat) (Q : Exit → Act → World → Prop), ops.toList.drop k = rest → Rel E st g a w →
    (∀ st' g' a' w', K st' → Rel E st' g' a' w' → Q .normal a' w') → wpOpsIn (FR rd) 0 P ops Q (List.range' k rest.length) a w

theorem aops_pre {rd : Option Nat} (hc : c.OK P) {ops : Array Oper} (hs : okStore ops.toList = true) {E : Ctx} {K : St → Prop} {Q : Exit → Act → World → Prop} {rest : List Oper} :
    ∀ (l : List Oper) (k : Nat) (st : St) (g : G) (a : Act) (w : World), ops.toList.drop k = l ++ rest → Rel E st g a w → aops c P ops l st K →
      (∀ st' g' a' w', K st' → Rel E st' g' a' w' → wpOpsIn (FR rd) 0 P ops Q (List.range' (k + l.length) rest.length) a' w') → wpOpsIn (FR rd) 0 P ops Q (List.range' k (l ++ rest).length) a w
  | [], k, st, g, a, w, _, hr, h, hK => hK st g a w h hr
  | o :: l, k, st, g, a, w, hd, hr, h, hK => by
    have hk : ops.toList[k]? = some o := by
      have : (ops.toList.drop k)[0]? = some o := by rw [hd]; rfl
      simpa using this
    have hd' : ops.toList.drop (k + 1) = l ++ rest := by rw [← List.drop_drop, hd]; rfl
    rw [List.cons_append, List.length_cons, List.range'_succ, wpOpsIn_cons]
    exact aops_one hc (okStore_spec hs (List.mem_of_getElem? hk)) (okStore_mw hs (List.mem_of_getElem? hk)) hr h (by simpa using hk) (fun st' g' a' w' h1 h2 => aops_pre hc hs l (k + 1) st' g' a' w' hd' h2 h1 (fun s1 g1 a1 w1 k1 k2 => by
      have := hK s1 g1 a1 w1 k1 k2
      rwa [List.length_cons, ← Nat.add_assoc, Nat.add_right_comm] at this))

theorem ROps.nil {ops : Array Oper} {st : St} {K : St → Prop} (h : K st) : ROps P ops [] st K := fun rd E g a w k Q _ hr hQ => by
  simp only [List.length_nil, List.range'_zero, wpOpsIn]
  exact hQ st g a w h hr

/-- One operation by meaning. -/
def OpS (P : Program) (o : Oper) (st : St) (K : St → Prop) : Prop :=
  ∀ (rd : Option Nat) (E : Ctx) (g : G) (a : Act) (w : World) (next : Act → World → Prop) (Q : Exit → Act → World → Prop), Rel E st g a w →
    (∀ st' g' a' w', K st' → Rel E st' g' a' w' → next a' w') → Oper.wpr rd P o a w next Q

theorem OpS.le {o : Oper} {st st' : St} {K : St → Prop} (hl : st.le st') (h : OpS P o st' K) : OpS P o st K := fun rd E g a w next Q hr hn => by
  obtain ⟨g', hr'⟩ := hl E g a w hr
  exact h rd E g' a w next Q hr' hn

theorem ROps.le {ops : Array Oper} {l : List Oper} {st st' : St} {K : St → Prop} (hl : st.le st') (h : ROps P ops l st' K) : ROps P ops l st K := fun rd E g a w k Q hd hr hQ => by
  obtain ⟨g', hr'⟩ := hl E g a w hr
  exact h rd E g' a w k Q hd hr' hQ

theorem drop_at {ops : Array Oper} {o : Oper} {rest : List Oper} {k : Nat} (hd : ops.toList.drop k = o :: rest) : ops[k]? = some o ∧ ops.toList.drop (k + 1) = rest := by
  refine ⟨?_, by rw [← List.drop_drop, hd]; rfl⟩
  have : (ops.toList.drop k)[0]? = some o := by rw [hd]; rfl
  simpa using this

theorem ROps.one {ops : Array Oper} {o : Oper} {rest : List Oper} {st : St} {K : St → Prop} (hg : o.guard = none) (h : OpS P o st (fun s => ROps P ops rest s K)) : ROps P ops (o :: rest) st K := fun rd E g a w k Q hd hr hQ => by
  obtain ⟨hk, hd'⟩ := drop_at hd
  rw [List.length_cons, List.range'_succ, wpOpsIn_cons]
  unfold wpOpIn
  rw [hk]
  dsimp only
  rw [if_pos (by simp [Region.wanted, hg])]
  exact h rd E g a w _ Q hr (fun st' g' a' w' h1 h2 => h1 rd E g' a' w' (k + 1) Q hd' h2 hQ)

theorem ROps.oneG {ops : Array Oper} {o : Oper} {rest : List Oper} {st : St} {K : St → Prop} {j : Nat} {want gg : Bool} (x : AV) (hg : o.guard = some (j, want)) (hj : gof st.σ ops j want = some gg)
    (h : gg = true → OpS P o st (fun s => ROps P ops rest s K)) (h0 : gg = false → ROps P ops rest ⟨putS st.σ o.dst (.opt gg x), st.h⟩ K) : ROps P ops (o :: rest) st K := fun rd E g a w k Q hd hr hQ => by
  obtain ⟨hk, hd'⟩ := drop_at hd
  rw [List.length_cons, List.range'_succ, wpOpsIn_cons]
  unfold wpOpIn
  rw [hk]
  dsimp only
  have hy := gof_spec hj (g := g) (a := a) (fun d _ => hr.sl.looks d)
  have hw : Region.wanted o (yielded ops a.tmps) = gg := by
    simp only [Region.wanted, hg]
    exact hy
  cases hgg : gg with
  | true =>
    rw [if_pos (by rw [hw, hgg])]
    exact h hgg rd E g a w _ Q hr (fun st' g' a' w' h1 h2 => h1 rd E g' a' w' (k + 1) Q hd' h2 hQ)
  | false =>
    rw [if_neg (by rw [hw, hgg]; simp)]
    refine ⟨fun _ _ => trivial, h0 hgg rd E g _ w (k + 1) Q hd' ⟨hr.sl.putS o.dst (v := undef) (.opt (fun e => by rw [hgg] at e; cases e) (fun _ => rfl)), hr.wd, by rw [put_defers]; exact hr.df⟩ hQ⟩

theorem AC.regionS {id : Nat} {ops : Array Oper} {st : St} {K : Exit → St → Prop} (h : ROps P ops ops.toList st (K .normal)) : AC c P nr (.region id ops false) st K := fun rd E g a w Q hN hr hK => by
  refine wpIn_region ?_
  have := h rd E g a w 0 Q rfl hr (fun st' g' a' w' h1 h2 => hK _ _ _ _ _ h1 h2)
  rwa [List.range_eq_range', ← Array.length_toList]

/-! ### worlds -/
theorem Wd.nm {E : Ctx} {h : List HObj} {g : G} {w : World} (r : Wd E h g w) (b : Bool) : Wd { E with nm := b } h g w :=
  ⟨r.imm, r.obj, r.lt, r.sep, r.inj, ⟨r.fr.mono, r.fr.new, r.fr.frame, r.fr.size, r.fr.os, r.fr.tape, r.fr.output⟩, r.gh⟩
theorem Wd.un {E : Ctx} {b : Bool} {h : List HObj} {g : G} {w : World} (r : Wd { E with nm := b } h g w) : Wd E h g w :=
  ⟨r.imm, r.obj, r.lt, r.sep, r.inj, ⟨r.fr.mono, r.fr.new, r.fr.frame, r.fr.size, r.fr.os, r.fr.tape, r.fr.output⟩, r.gh⟩

theorem Mks.app {h l : List HObj} {β : Bl} {ds : List Deferred} (k : Mks h β ds) : Mks (h ++ l) β ds :=
  k.mono (fun i hi => by rw [List.getElem?_append_left (List.getElem?_eq_some_iff.1 hi).1]; exact hi) (fun _ _ h => h)

theorem Mks.set {h : List HObj} {β : Bl} {ds : List Deferred} (k : Mks h β ds) {b : Nat} {o o' : HObj} (ho : h[b]? = some o) (hne : o ≠ .df) : Mks (h.set b o') β ds :=
  k.mono (fun i hi => by
    by_cases e : i = b
    · subst e; rw [ho] at hi; cases hi; exact absurd rfl hne
    · rw [List.getElem?_set_ne (fun e' => e e'.symm)]; exact hi) (fun _ _ h => h)

/-- One who waits is laid aside. -/
theorem Wd.ghost {E : Ctx} {h : List HObj} {g : G} {w : World} (r : Wd E h g w) {xs : List AV} {vs : Array Value} {ds : List Deferred} (hx : ∀ j x, xs[j]? = some x → Rep g.H g.β x (vs.getD j undef)) (hd : Mks h g.β ds) : Wd E (h ++ [.ghost xs vs ds]) g w where
  imm := r.imm
  obj i o b c ho hβ := r.obj i o b c (by rwa [List.getElem?_append_left (r.lt i b c hβ).1] at ho) hβ
  lt i b c hβ := ⟨by have := (r.lt i b c hβ).1; simp; omega, (r.lt i b c hβ).2⟩
  sep := r.sep
  inj i j b c c' h1 h2 := (r.inj i j b c c' h1 h2).imp id (Or.imp (fun k => k.app _) (fun k => k.app _))
  fr := r.fr
  gh i ys us es hi := by
    by_cases e : i < h.length
    · rw [List.getElem?_append_left e] at hi; exact ⟨(r.gh i ys us es hi).1, (r.gh i ys us es hi).2.app⟩
    · rw [List.getElem?_append_right (by omega)] at hi
      have : i - h.length = 0 := by
        have := (List.getElem?_eq_some_iff.1 hi).1
        simp at this; omega
      rw [this] at hi
      simp only [List.getElem?_cons_zero, Option.some.injEq, HObj.ghost.injEq] at hi
      obtain ⟨rfl, rfl, rfl⟩ := hi
      exact ⟨hx, hd.app⟩

/-- ... and comes back. -/
theorem Wd.bury {E : Ctx} {h : List HObj} {g : G} {w : World} (r : Wd E h g w) {m : Nat} {xs : List AV} {vs : Array Value} {ds : List Deferred} (hm : h[m]? = some (.ghost xs vs ds)) : Wd E (h.set m .dead) g w where
  imm := r.imm
  obj i o b c ho hβ := by
    by_cases e : i = m
    · subst e
      rw [List.getElem?_set_self (List.getElem?_eq_some_iff.1 hm).1] at ho
      cases ho; exact ⟨trivial, fun e => by cases e⟩
    · rw [List.getElem?_set_ne (fun e' => e e'.symm)] at ho; exact r.obj i o b c ho hβ
  lt i b c hβ := ⟨by rw [List.length_set]; exact (r.lt i b c hβ).1, (r.lt i b c hβ).2⟩
  sep := r.sep
  inj i j b c c' h1 h2 := (r.inj i j b c c' h1 h2).imp id (Or.imp (fun k => k.set hm rfl) (fun k => k.set hm rfl))
  fr := r.fr
  gh i ys us es hi := by
    by_cases e : i = m
    · subst e
      rw [List.getElem?_set_self (List.getElem?_eq_some_iff.1 hm).1] at hi
      cases hi
    · rw [List.getElem?_set_ne (fun e' => e e'.symm)] at hi
      exact ⟨(r.gh i ys us es hi).1, (r.gh i ys us es hi).2.set hm (fun e => by cases e)⟩

/-! ### a call, walked inline -/
def packA : List AV → AV
  | [x] => x
  | xs => .tu xs

theorem packA_rep {H : Mem} {β : Bl} {rs : List AV} {us : List Value} (hl : us.length = rs.length) (hh : ∀ (i : Nat) x v, rs[i]? = some x → us[i]? = some v → Rep H β x v) : Rep H β (packA rs) (packR us) := by
  have tup : us.length ≠ 1 → Rep H β (.tu rs) (packR us) := by
    intro hne
    unfold packR
    rw [dif_neg hne]
    refine .tu (by simpa using hl) (fun i x hx => ?_)
    have hi : i < us.length := by rw [hl]; exact (List.getElem?_eq_some_iff.1 hx).1
    rw [Array.getD_eq_getD_getElem?, List.getElem?_toArray, List.getElem?_eq_getElem hi]
    exact hh i x _ hx (List.getElem?_eq_getElem hi)
  match rs, us, hl, hh, tup with
  | [x], [u], _, hh, _ => exact hh 0 x u rfl rfl
  | [], us, hl, _, tup => exact tup (by rw [hl]; simp)
  | x :: y :: l, us, hl, _, tup => exact tup (by rw [hl]; simp)
  | [x], [], hl, _, _ => simp at hl
  | [x], _ :: _ :: _, hl, _, _ => simp at hl

/-- The end of a call that was walked inline: the waiting one's slots come back, with the result. -/
def cend (c : Cfg) (res : List ResultVar) (n m : Nat) (vs : Array Value) (ds : List Deferred) (dst : Option Tmp) (K : St → Prop) (e : Exit) (s : St) : Prop :=
  match e with
  | .normal | .ret => ares c s res fun rs => ∃ σ', (s.h[m]? = some (.ghost σ' vs ds) ∧ σ'.length = n) ∧ K ⟨putS σ' dst (packA rs), s.h.set m .dead⟩
  | _ => False

theorem Rep.fn_inv {H : Mem} {β : Bl} {f : Fn} {caps : List AV} {v : Value} (h : Rep H β (.fn f [] caps) v) : ∃ us : Array Value, v = .func f #[] us ∧ us.size = caps.length ∧ ∀ i x, caps[i]? = some x → Rep H β x (us.getD i undef) := by
  cases h with
  | fn hs h1 hs' h2 =>
    rename_i vs us
    have : vs = #[] := Array.eq_empty_of_size_eq_zero (by simpa using hs)
    subst this
    exact ⟨us, rfl, hs', h2⟩

theorem args_rep {σ : List AV} {g : G} {a : Act} (hs : Sl σ g a) {xs : Array Operand} {avs : List AV} (h : xs.toList.map (ev σ) = avs) : (xs.map a.eval).size = avs.length ∧ ∀ i x, avs[i]? = some x → Rep g.H g.β x ((xs.map a.eval).getD i undef) := by
  subst h
  refine ⟨by simp, fun i x hx => ?_⟩
  rw [List.getElem?_map, Option.map_eq_some_iff] at hx
  obtain ⟨y, hy, rfl⟩ := hx
  have : (xs.map a.eval).getD i undef = a.eval y := by
    rw [Array.getD_eq_getD_getElem?, Array.getElem?_map, ← Array.getElem?_toList, hy]; rfl
  rw [this]
  exact ev_rep (fun t _ => hs.looks t)

theorem app_rep {H : Mem} {β : Bl} {as bs : List AV} {us vs : Array Value} (h1 : us.size = as.length) (h2 : ∀ i x, as[i]? = some x → Rep H β x (us.getD i undef)) (h3 : vs.size = bs.length) (h4 : ∀ i x, bs[i]? = some x → Rep H β x (vs.getD i undef)) :
    (us ++ vs).size = (as ++ bs).length ∧ ∀ i x, (as ++ bs)[i]? = some x → Rep H β x ((us ++ vs).getD i undef) := by
  refine ⟨by simp [h1, h3], fun i x hx => ?_⟩
  by_cases e : i < as.length
  · rw [List.getElem?_append_left e] at hx
    have := h2 i x hx
    rwa [show (us ++ vs).getD i undef = us.getD i undef by rw [Array.getD_eq_getD_getElem?, Array.getD_eq_getD_getElem?, Array.getElem?_append_left (by omega)]]
  · rw [List.getElem?_append_right (by omega)] at hx
    have := h4 _ x hx
    rwa [show (us ++ vs).getD i undef = vs.getD (i - as.length) undef by rw [Array.getD_eq_getD_getElem?, Array.getD_eq_getD_getElem?, Array.getElem?_append_right (by omega), h1]]

/-- The walk of a callee over the heap of one who waits. -/
theorem calls_inline (hc : c.OK P) {f : FuncId} {fn : Func} {body : Code} (hf : P.funcs[f]? = some fn) (hb : fn.body = some body) {E : Ctx} {h : List HObj} {g : G} {w : World} {args : List AV} {us : Array Value} (hs : us.size = args.length)
    (ha : ∀ i x, args[i]? = some x → Rep g.H g.β x (us.getD i undef)) (hw : Wd E h g w) {K : Exit → St → Prop} (hA : AC c P false body ⟨slots0 args fn.ntmps, h⟩ K) {R : Ending → World → Prop}
    (hR : ∀ e s g' w', K e s → Wd E s.h g' w' → (e = .normal ∨ e = .ret) ∧ ares c s fn.results.toList fun rs => ∀ us : List Value, us.length = rs.length → (∀ (i : Nat) x v, rs[i]? = some x → us[i]? = some v → Rep g'.H g'.β x v) → R (.returned (packR us)) w') : Calls P f us w R := by
  refine calls_FR (r := none) (n := 0) (callsIn_of_wp_marks (F := FR none) hf hb trivial ?_)
  refine hA none { E with nm := true } g _ w _ (fun e => by cases e) ⟨slots0_sl hs ha, hw.nm true, ⟨List.nodup_nil, fun _ => rfl, fun d hd => by simp at hd⟩⟩ (fun e s g' a' w' hk hr => ?_)
  obtain ⟨he, hres⟩ := hR e s g' w' hk hr.wd.un
  have hdf : a'.defers = [] := hr.df.2.1 rfl
  obtain ⟨vs, rs, h1, h2, h3, h4⟩ := ares_run hc hr hres
  have key : LeavesInM (FR none) 0 P fn a'.tmps R a'.defers .returning w' := by
    rw [hdf]
    refine ⟨packR vs, ?_, h4 vs h2 h3⟩
    rw [results_eq, Array.mapM_eq_mapM_toList]
    simp only [Sem.run_bind, Sem.run_map, h1, Result.andThen_ok, Sem.run_pure]
    rfl
  rcases he with rfl | rfl <;> exact key

theorem ares_mono {s : St} : ∀ {l : List ResultVar} {K K' : List AV → Prop}, (∀ rs, K rs → K' rs) → ares c s l K → ares c s l K'
  | [], _, _, h, k => h _ k
  | .tmp t :: l, _, _, h, k => ares_mono (l := l) (fun rs => h _) k
  | .cell a t :: l, K, K', h, k => by
    unfold ares at k ⊢
    split at k
    · rename_i ti hti
      split at k
      · rename_i p r ha
        exact ⟨k.1, ares_mono (l := l) (fun rs => h _) k.2⟩
      · cases k
    · cases k

theorem OpS.call (hc : c.OK P) {o : Oper} {st : St} {K : St → Prop} {x : Operand} {xs : Array Operand} {ts : Array TypeId} {f : FuncId} {fn : Func} {body : Code} {caps avs : List AV} (ho : o.op = .call { callee := .value x, args := xs, argTypes := ts })
    (hx : ev st.σ x = .fn (.func f) [] caps) (hf : P.funcs[f]? = some fn) (hb : fn.body = some body) (hname : fn.name ≠ "runtime.NumGoroutine") (hav : xs.toList.map (ev st.σ) = avs)
    (h : ∀ vs ds, AC c P false body ⟨slots0 (avs ++ caps) fn.ntmps, st.h ++ [.ghost st.σ vs ds]⟩ (cend c fn.results.toList st.σ.length st.h.length vs ds o.dst K)) : OpS P o st K := by
  intro rd E g a w next Q hr hn
  have hrep : Rep g.H g.β (ev st.σ x) (a.eval x) := ev_rep (fun t _ => hr.sl.looks t)
  rw [hx] at hrep
  obtain ⟨us, hv, hu1, hu2⟩ := hrep.fn_inv
  obtain ⟨ha1, ha2⟩ := args_rep hr.sl hav
  obtain ⟨hs, ha⟩ := app_rep ha1 ha2 hu1 hu2
  have hok : FnOK P f := ⟨fn, hf, hname, by rw [hb]; simp⟩
  refine wpr_enter (fun c e => by rw [ho] at e; cases e) (f := f) (args := xs.map a.eval ++ us) (w' := w) (by simp [execOp, ho, resolve, hv, Deferred.ofValue, invoke, run_callFunc hok]) ?_
  refine calls_inline hc hf hb hs ha (hr.wd.ghost (xs := st.σ) (vs := a.tmps) (ds := a.defers) hr.sl.at_ hr.df.2.2) (h a.tmps a.defers) (fun e s g' w' hk hw => ?_)
  unfold cend at hk
  have key : (ares c s fn.results.toList fun rs => ∃ σ', (s.h[st.h.length]? = some (.ghost σ' a.tmps a.defers) ∧ σ'.length = st.σ.length) ∧ K ⟨putS σ' o.dst (packA rs), s.h.set st.h.length .dead⟩) →
      ares c s fn.results.toList fun rs => ∀ us : List Value, us.length = rs.length → (∀ (i : Nat) x v, rs[i]? = some x → us[i]? = some v → Rep g'.H g'.β x v) → ∃ v, Ending.returned (packR us) = .returned v ∧ next (a.put o.dst v) w' := by
    refine ares_mono ?_
    rintro rs ⟨σ', ⟨h1, h2⟩, hK⟩ us hl hh
    obtain ⟨k1, k2⟩ := hw.gh _ _ _ _ h1
    refine ⟨_, rfl, hn _ g' _ w' hK ⟨(Sl.putS ⟨by rw [hr.sl.size, h2], k1⟩ o.dst (packA_rep hl hh)), hw.bury h1, ?_⟩⟩
    rw [put_defers]
    exact ⟨hr.df.1, hr.df.2.1, k2.set h1 (fun e => by cases e)⟩
  cases e with
  | normal => exact ⟨.inl rfl, key hk⟩
  | ret => exact ⟨.inr rfl, key hk⟩
  | _ => exact hk.elim

end
end Go.Jo
