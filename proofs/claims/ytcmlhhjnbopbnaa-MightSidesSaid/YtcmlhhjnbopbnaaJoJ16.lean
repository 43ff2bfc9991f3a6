/- The rules of a walk: segments of operations run at once; code. Over any program. -/
import Derived.Test.YtcmlhhjnbopbnaaJoJ15
namespace Go.Jo
open Go.RowKit
set_option autoImplicit false

section
variable {P : Program} {c : Cfg} {nr : Bool}

/-! ### code -/
def AC (c : Cfg) (P : Program) (nr : Bool) (b : Code) (st : St) (K : Exit → St → Prop) : Prop :=
  ∀ (rd : Option Nat) (E : Ctx) (g : G) (a : Act) (w : World) (Q : Exit → Act → World → Prop), (nr = true → rd = none ∧ E.nm = false) → Rel E st g a w → (∀ e st' g' a' w', K e st' → Rel E st' g' a' w' → Q e a' w') → b.wpIn (FR rd) 0 P Q a w

theorem AC.le {b : Code} {st st' : St} {K : Exit → St → Prop} (hl : st.le st') (h : AC c P nr b st' K) : AC c P nr b st K := fun rd E g a w Q hN hr hK => by
  obtain ⟨g', hr'⟩ := hl E g a w hr
  exact h rd E g' a w Q hN hr' hK
theorem AC.mono {b : Code} {st : St} {K K' : Exit → St → Prop} (h : AC c P nr b st K) (hk : ∀ e s, K e s → K' e s) : AC c P nr b st K' := fun rd E g a w Q hN hr hK => h rd E g a w Q hN hr (fun e st' g' a' w' h1 h2 => hK e st' g' a' w' (hk _ _ h1) h2)

def seqK (c : Cfg) (P : Program) (nr : Bool) (b : Code) (K : Exit → St → Prop) : Exit → St → Prop
  | .normal, s => AC c P nr b s K
  | e, s => K e s
def blockK (id : Nat) (K : Exit → St → Prop) : Exit → St → Prop
  | .exit i, s => if i = id then K .normal s else K (.exit i) s
  | e, s => K e s
/-- A round's end: a state that some state of the family stands for, with less to go. -/
def loopK {ι : Type} (S : ι → St) (μ : ι → Nat) (i : ι) (K : Exit → St → Prop) : Exit → St → Prop
  | .normal, s => ∃ j, μ j < μ i ∧ s.le (S j)
  | e, s => K e s
/-- The ways meet again. -/
def joinK (st' : St) (K : Exit → St → Prop) : Exit → St → Prop
  | .normal, s => s.le st'
  | e, s => K e s

theorem AC.skip {st : St} {K : Exit → St → Prop} (h : K .normal st) : AC c P nr .skip st K := fun _ _ _ _ _ _ _ hr hK => wpIn_skip (hK _ _ _ _ _ h hr)
theorem AC.label {l : Nat} {st : St} {K : Exit → St → Prop} (h : K .normal st) : AC c P nr (.label l) st K := fun _ _ _ _ _ _ _ hr hK => wpIn_label (hK _ _ _ _ _ h hr)
theorem AC.exit {id : Nat} {st : St} {K : Exit → St → Prop} (h : K (.exit id) st) : AC c P nr (.exit id) st K := fun _ _ _ _ _ _ _ hr hK => wpIn_exit (hK _ _ _ _ _ h hr)
theorem AC.ret {st : St} {K : Exit → St → Prop} (h : K .ret st) : AC c P nr .ret st K := fun _ _ _ _ _ _ _ hr hK => wpIn_ret (hK _ _ _ _ _ h hr)
theorem AC.seq {x y : Code} {st : St} {K : Exit → St → Prop} (h : AC c P nr x st (seqK c P nr y K)) : AC c P nr (.seq x y) st K := fun rd E g a w Q hN hr hK => by
  refine wpIn_seq (h rd E g a w _ hN hr (fun e st' g' a' w' h1 h2 => ?_))
  cases e with
  | normal => exact h1 rd E g' a' w' Q hN h2 hK
  | _ => exact hK _ _ _ _ _ h1 h2
theorem AC.cond {x : Operand} {y z : Code} {st : St} {K : Exit → St → Prop} (t : Bool) (hx : ev st.σ x = .d (.v (.bool t))) (h1 : t = true → AC c P nr y st K) (h2 : t = false → AC c P nr z st K) : AC c P nr (.cond x y z) st K := fun rd E g a w Q hN hr hK => by
  have hrep : Rep g.H g.β (ev st.σ x) (a.eval x) := ev_rep (fun t _ => hr.sl.looks t)
  rw [hx] at hrep
  refine wpIn_cond (t := t) hrep.lit_inv ?_
  cases t with
  | true => exact h1 rfl rd E g a w Q hN hr hK
  | false => exact h2 rfl rd E g a w Q hN hr hK
theorem AC.block {id : Nat} {b : Code} {st : St} {K : Exit → St → Prop} (h : AC c P nr b st (blockK id K)) : AC c P nr (.block id b) st K := fun rd E g a w Q hN hr hK => by
  refine wpIn_block (h rd E g a w _ hN hr (fun e st' g' a' w' h1 h2 => ?_))
  cases e with
  | exit i =>
    simp only [Exit.inBlock]
    by_cases e : i = id
    · simp only [blockK, if_pos e] at h1; rw [if_pos e]; exact hK _ _ _ _ _ h1 h2
    · simp only [blockK, if_neg e] at h1; rw [if_neg e]; exact hK _ _ _ _ _ h1 h2
  | _ => exact hK _ _ _ _ _ h1 h2
theorem AC.loop {b : Code} {st : St} {K : Exit → St → Prop} {ι : Type} (S : ι → St) (μ : ι → Nat) (i0 : ι) (h0 : st.le (S i0)) (hround : ∀ i, AC c P nr b (S i) (loopK S μ i K)) : AC c P nr (.loop b) st K := fun rd E g a w Q hN hr hK => by
  obtain ⟨g0, hr0⟩ := h0 E g a w hr
  refine wpIn_loop (fun a w => ∃ i g, Rel E (S i) g a w) (leastM E S μ) ⟨i0, g0, hr0⟩ (fun a w hI => ?_)
  obtain ⟨j, gj, hrj, hmin⟩ := leastM_spec S μ hI
  refine hround j rd E gj a w _ hN hrj (fun e st' g' a' w' h1 h2 => ?_)
  cases e with
  | normal =>
    obtain ⟨j', hlt, hle⟩ := h1
    obtain ⟨g'', hr''⟩ := hle E g' a' w' h2
    exact ⟨⟨j', g'', hr''⟩, by rw [hmin]; exact Nat.lt_of_le_of_lt (leastM_le S μ hr'') hlt⟩
  | _ => exact hK _ _ _ _ _ h1 h2
theorem AC.region (hc : c.OK P) {id : Nat} {ops : Array Oper} {st : St} {K : Exit → St → Prop} (hs : okStore ops.toList = true) (h : aops c P ops ops.toList st (K .normal)) : AC c P nr (.region id ops false) st K := fun rd E g a w Q hN hr hK => by
  refine wpIn_region ?_
  have := aops_seq (rd := rd) hc hs (Q := Q) (fun st' g' a' w' h1 h2 => hK _ _ _ _ _ h1 h2) ops.toList 0 st g a w rfl hr h
  rwa [List.range_eq_range', ← Array.length_toList]
theorem AC.draws (hc : c.OK P) (hm : P.follows .mixedOrders = true) {id : Nat} {ops : Array Oper} {st : St} {K : Exit → St → Prop} (m : Nat) (hs : okOrder ops m = true) (h : aops c P ops ops.toList st (K .normal)) : AC c P nr (.region id ops true) st K := fun rd E g a w Q hN hr hK =>
  wpIn_region_any hm (aops_any hc hs (w := w.drew) hr.drew h (fun st' g' a' w' h1 h2 => hK _ _ _ _ _ h1 h2))
/-- Two ways meet again in one state. -/
theorem AC.join {x y : Code} {st : St} (st' : St) {K : Exit → St → Prop} (h : AC c P nr x st (joinK st' (seqK c P nr y K))) (h2 : AC c P nr y st' K) : AC c P nr (.seq x y) st K :=
  AC.seq (h.mono (fun e s he => by
    cases e with
    | normal => exact AC.le he h2
    | _ => exact he))


theorem acall_ac (hc : c.OK P) {f : FuncId} {fn : Func} {body : Code} (hf : P.funcs[f]? = some fn) (hb : fn.body = some body) (hname : fn.name ≠ "runtime.NumGoroutine") {args : List D} {r : D}
    (h : AC c P true body ⟨slots0 (args.map .d) fn.ntmps, []⟩ (aend c fn.results.toList r)) : ACall P f args r := by
  refine ⟨⟨fn, hf, hname, by rw [hb]; simp⟩, fun H vs w hs hargs himm => calls_FR (r := none) (n := 0) (callsIn_of_wp_marks (F := FR none) hf hb trivial ?_)⟩
  obtain ⟨hr0, hend⟩ := entered (P := P) hc (fn := fn) (r := r) hs hargs himm
  exact h none _ _ _ _ _ (fun _ => ⟨rfl, rfl⟩) hr0 hend
end
end Go.Jo
