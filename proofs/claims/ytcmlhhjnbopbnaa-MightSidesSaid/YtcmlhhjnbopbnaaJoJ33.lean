/- A law's row, out of its contract. Over any program. -/
import Derived.Test.YtcmlhhjnbopbnaaJoJ32
namespace Go.Jo
open Go.RowKit Go.ChangeShapes Go.WideShapes Go.ChangeAt
set_option autoImplicit false
section
variable {P : Program} {HH : Type} {enc : TypeId × Value → HH} {W W' : World}

theorem below_all (hl : laidOutB P = true) (hb : Below W.heap.size W W') : ∀ {ts : List TypeId} {vs : List Value} {ds : List (DataW HH)} {ps : List MemPlace}, (ts.all fun t => P.readableRec t && decide (t < P.types.size)) = true →
    DataW.TrodAll enc P W 0 (fun _ => true) true ts vs ds ps → (∀ x ∈ ps, x.block < W.heap.size) → DataW.TrodAll enc P W' 0 (fun b => decide (b < W.heap.size)) true ts vs ds ps
  | [], [], [], _, _, h, _ => h
  | t :: ts, v :: vs, d :: ds, ps, ha, h, hlt => by
    simp only [List.all_cons, Bool.and_eq_true, decide_eq_true_eq] at ha
    obtain ⟨p, q, h1, h2, rfl⟩ := h
    exact ⟨p, q, Below.trod hl ha.1.1 ha.1.2 h1 hb (fun x hx => hlt x (List.mem_append_left _ hx)), below_all hl hb ha.2 h2 (fun x hx => hlt x (List.mem_append_right _ hx)), rfl⟩
  | [], _ :: _, _, _, _, h, _ => h.elim
  | [], [], _ :: _, _, _, h, _ => h.elim
  | _ :: _, [], _, _, _, h, _ => h.elim
  | _ :: _, _ :: _, [], _, _, h, _ => h.elim

/-- What a law's call must leave. -/
theorem law_post {f : Func} {s : ChangeSpec} {apart fresh handsOn : Bool} {args : Array Value} {ds gs : List (DataW HH)} {before : List MemPlace} {tb : TypeId} (hl : laidOutB P = true) (hv : s.vars = []) (hr : f.resultTypes.toList = [tb]) (htb : P.underlying tb = some .bool)
    (hrs : f.resultTypes.size = 1) (hp : (f.params.toList.all fun t => P.readableRec t && decide (t < P.types.size)) = true) (hW : DataW.Whole enc P f.params.toList s.vars apart W args.toList ds gs before) (hb : Below W.heap.size W W')
    (h1 : (s.fn HH (ds ++ gs)).results = [.lit (.bool true)]) (h2 : (s.fn HH (ds ++ gs)).args = ds) (h3 : (s.fn HH (ds ++ gs)).vars = []) : s.post enc P f apart fresh handsOn false W args (.bool true) W' := by
  have hlt := fun p (hp : p ∈ before) => hW.lt p hp
  have hW' := hW
  obtain ⟨p, q, hA, hV, rfl, hfz, hnd⟩ := hW
  rw [hv] at hV
  obtain ⟨rfl, rfl⟩ : gs = [] ∧ q = [] := by
    cases gs with
    | nil => exact ⟨rfl, hV⟩
    | cons g gs => exact hV.elim
  refine ⟨ds, [], p ++ [], [], p, [], hW', ?_, ?_, ?_, hb.frame _, fun h => by cases h⟩
  · rw [h1, hr, hrs]
    exact trodAll_mk1 (shut_bool htb true)
  · rw [h2]
    exact below_all hl hb hp hA (fun x hx => hlt x (List.mem_append_left _ hx))
  · rw [hv, h3]; rfl

theorem true_inv {H : Mem} {v : Value} (h : RepD H (dB true) v) : v = .bool true := by cases h; rfl

/-- A table among the arguments. -/
theorem struct_arg {t : TypeId} {fs : Array Field} {base : Nat} {v : Value} {d : DataW HH} {ps : List MemPlace} {sp : Nat → Bool} (l : List TypeId) (hc : closedT P l = true) (ht : l.contains t = true) (hu : P.underlying t = some (.struct fs)) (hval : Value.okWide P W .any base t v)
    (h : DataW.Trod enc P W 0 sp true t v d ps) : ∃ (n : Nat) (xs : List D), Sh P n t xs ∧ ∀ ys, LEq xs ys → RepD W.cell? (.ag ys) v := by
  obtain ⟨cs, rfl, _⟩ := okWide_struct hu hval
  obtain ⟨n, hn⟩ := h
  obtain ⟨xs, k1, k2, _⟩ := trod_sh l hc n t _ ht _ hn
  exact ⟨n, xs, k2, fun ys hy => rep_of k1 hy (by simp [Value.cells])⟩
end
end Go.Jo
