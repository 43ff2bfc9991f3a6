/- Walks and plain laws of the program's functions, a part of the proof (YtcmlhhjnbopbnaaJSR2). Conditions: those that each theorem states. -/
import Derived.Test.YtcmlhhjnbopbnaaRows
import Derived.ProofKit
import Derived.Test.YtcmlhhjnbopbnaaJSR1
import Derived.Test.YtcmlhhjnbopbnaaJSE4
import Derived.Test.YtcmlhhjnbopbnaaJoJ33
namespace Go.Jo.S
open Go.Jo Go.Proofs
set_option autoImplicit false
set_option linter.all false
open Go.RowKit Go.ChangeShapes Go.WideShapes Go.ChangeAt
theorem own_knob : ownKnob Try.prog.godebug = none := by kernel_rfl
theorem laid_out : laidOutB Try.prog = true := by kernel_rfl
def dataTs : List TypeId := [3, 4, 5, 9, 22, 23, 24, 25, 26, 28, 33, 35, 58, 60, 62, 86, 88, 104, 106, 116]
theorem dataTs_ok : closedT Try.prog dataTs = true := by kernel_rfl

theorem tab_ok {t : GTable} (h : okGTable t) : tabOK t := fun i hi => by
  have h2 : ∀ y ∈ t.Pieces, okGPiece y := h.2.1
  have hm : t.Pieces.getD i default ∈ t.Pieces := by
    rw [List.getD_eq_getElem?_getD, List.getElem?_eq_getElem hi]
    exact List.getElem_mem _
  have := (h2 _ hm).2.2.2.2.1
  exact (bounds_u8 this).1

set_option maxRecDepth 100000 in
theorem sides_lifted (os : Os) (started : os.Started) (H : Type) (enc : TypeId × Value → H) :
    ReturnsInHanded {} Try.checked os 3 .any (Go.Proofs.Ytcmlhhjnbopbnaa.Rows.mightSidesSpec.pre6 enc Try.prog Try.f3 Go.Proofs.Ytcmlhhjnbopbnaa.Rows.mightSidesRow.domain false) (Go.Proofs.Ytcmlhhjnbopbnaa.Rows.mightSidesSpec.post enc Try.prog Try.f3 false true false false) := by
  refine returnsInHanded_of_change (C := Try.checked) own_knob started (by kernel_rfl) Try.func3
    (ChangeSpec.witness6 (enc := enc) (C := Try.checked) false ⟨#[], #[.agg #[.slice none 0 0, .slice none 0 0, .int .i64 0, .int .i64 0, .int .i64 0, .int .u8 0, .int .i64 0, .slice none 0 0, .bool false, .bool false], .int .u8 0, .int .i64 0, .int .i64 0, .int .u8 0, .int .u8 0], []⟩ 8 (by kernel_rfl) (by kernel_rfl) (by kernel_rfl) (by kernel_rfl)) ?_
  intro W base args ds gs before hval0 hW hcnd _
  have hval : ∀ (j : Nat) t v, Try.f3.params[j]? = some t → args[j]? = some v → Value.okWide Try.prog W .any base t v := hval0
  have hW0 : DataW.Whole enc Try.prog Try.f3.params.toList [] false W args.toList ds gs before := hW
  have hW' := hW0
  obtain ⟨p, q, hA0, hV, rfl, hfz, hnd⟩ := hW0
  have hA : DataW.TrodAll enc Try.prog W 0 (fun _ => true) true Try.f3.params.toList args.toList ds p := hA0
  obtain ⟨rfl, rfl⟩ := trodVars_none hV
  rw [Try.params3] at hA hval
  obtain ⟨v0, vs0, d0, ds0, p0, q0, hargs, rfl, rfl, h0, r0⟩ := trodAll_cons hA
  obtain ⟨v1, vs1, d1, ds1, p1, q1, rfl, rfl, rfl, h1, r1⟩ := trodAll_cons r0
  obtain ⟨v2, vs2, d2, ds2, p2, q2, rfl, rfl, rfl, h2, r2⟩ := trodAll_cons r1
  obtain ⟨v3, vs3, d3, ds3, p3, q3, rfl, rfl, rfl, h3, r3⟩ := trodAll_cons r2
  obtain ⟨v4, vs4, d4, ds4, p4, q4, rfl, rfl, rfl, h4, r4⟩ := trodAll_cons r3
  obtain ⟨v5, vs5, d5, ds5, p5, q5, rfl, rfl, rfl, h5, r5⟩ := trodAll_cons r4
  obtain ⟨rfl, rfl, rfl⟩ := trodAll_nil r5
  obtain rfl : args = #[v0, v1, v2, v3, v4, v5] := by cases args; simp_all
  obtain ⟨n, xs, hS, hR⟩ := struct_arg dataTs dataTs_ok (by kernel_rfl) Try.underlying28 (hval 0 28 v0 rfl rfl) h0
  obtain ⟨t, ht, ok⟩ := of_GTable hS
  have hr0 := hR _ ht
  obtain ⟨a1, rfl, rfl, rfl, w1⟩ := open_int Try.underlying5 (hval 1 5 v1 rfl rfl) h1
  obtain ⟨a2, rfl, rfl, rfl, w2⟩ := open_int Try.underlying3 (hval 2 3 v2 rfl rfl) h2
  obtain ⟨a3, rfl, rfl, rfl, w3⟩ := open_int Try.underlying3 (hval 3 3 v3 rfl rfl) h3
  obtain ⟨a4, rfl, rfl, rfl, w4⟩ := open_int Try.underlying5 (hval 4 5 v4 rfl rfl) h4
  obtain ⟨a5, rfl, rfl, rfl, w5⟩ := open_int Try.underlying5 (hval 5 5 v5 rfl rfl) h5
  have C := (sides_ok t a1 a2 a3 a4 a5).2 W.cell? #[v0, .int .u8 a1, .int .i64 a2, .int .i64 a3, .int .u8 a4, .int .u8 a5] W rfl (fun i x hx => by
    match i, hx with
    | 0, hx => cases hx; exact hr0
    | 1, hx => cases hx; exact .v rfl
    | 2, hx => cases hx; exact .v rfl
    | 3, hx => cases hx; exact .v rfl
    | 4, hx => cases hx; exact .v rfl
    | 5, hx => cases hx; exact .v rfl
    | i + 6, hx => cases hx) (fun _ _ h => h)
  rw [sides_true (tab_ok ok) (bounds_u8 w1).1] at C
  refine C.mono fun e W' ⟨v, H', he, hv, _, _, _, hb⟩ => ?_
  obtain rfl := true_inv hv
  exact ⟨_, he, law_post laid_out rfl rfl Try.underlying4 rfl (by kernel_rfl) hW' hb rfl rfl rfl⟩

theorem sides_said : Go.Proofs.Ytcmlhhjnbopbnaa.Rows.MightSidesSaid :=
  OpenClaim.holds_of_wide 3 Try.f3 rfl rfl rfl rfl rfl rfl rfl ⟨rfl, rfl, rfl, rfl, rfl⟩ rfl rfl rfl rfl rfl (by kernel_rfl) Try.func3 (by kernel_rfl)
    (of_decide_eq_true (by kernel_rfl)) (by unfold Func.isWrapper; first | (rw [if_pos (by decide +kernel)]; kernel_rfl) | (rw [if_neg (by decide +kernel)]; exact ⟨rfl, rfl⟩))
    (fun os started H enc _ => sides_lifted os started H enc)
end Go.Jo.S
