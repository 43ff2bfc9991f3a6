/- Walks and plain laws of the program's functions, a part of the proof (YtcmlhhjnbopbnaaJSR1). Conditions: those that each theorem states. -/
import Derived.Test.YtcmlhhjnbopbnaaJSD0
import Derived.Test.YtcmlhhjnbopbnaaJSJT
import Derived.Test.YtcmlhhjnbopbnaaJoJ32
namespace Go.Jo.S
open Go.Jo Go.Proofs
set_option autoImplicit false
set_option linter.all false
set_option maxRecDepth 20000
def okGSel (x : GSel) : Prop := (Lit.int .u8 x.Side).wf = true ∧ (Lit.int .u8 x.Zone).wf = true ∧ (Lit.int .u8 x.Kind).wf = true
theorem of_GSel {n : Nat} {xs : List D} (h : Sh Try.prog n 33 xs) : ∃ x : GSel, LEq xs (encGSel x) ∧ okGSel x := by
  obtain ⟨q, yss, rfl, hl, hf⟩ := sh_struct Try.underlying33 h
  match yss, hl, hf with
  | [y0, y1, y2], _, hf =>
    have h0 := hf 0 _ y0 rfl rfl
    have h1 := hf 1 _ y1 rfl rfl
    have h2 := hf 2 _ y2 rfl rfl
    obtain ⟨z0, rfl, oz0⟩ := sh_int Try.underlying5 h0
    obtain ⟨z1, rfl, oz1⟩ := sh_int Try.underlying5 h1
    obtain ⟨z2, rfl, oz2⟩ := sh_int Try.underlying5 h2
    exact ⟨⟨z0, z1, z2⟩, (LEq.app (LEq.refl _) (LEq.app (LEq.refl _) (LEq.app (LEq.refl _) LEq.nil))), ⟨oz0, oz1, oz2⟩⟩
def okGExpr (x : GExpr) : Prop := (Lit.int .u8 x.Op).wf = true ∧ (Lit.int .i64 x.N).wf = true ∧ (Lit.int .u8 x.Side).wf = true ∧ okGSel x.Sel
theorem of_GExpr {n : Nat} {xs : List D} (h : Sh Try.prog n 62 xs) : ∃ x : GExpr, LEq xs (encGExpr x) ∧ okGExpr x := by
  obtain ⟨q, yss, rfl, hl, hf⟩ := sh_struct Try.underlying62 h
  match yss, hl, hf with
  | [y0, y1, y2, y3, y4], _, hf =>
    have h0 := hf 0 _ y0 rfl rfl
    have h1 := hf 1 _ y1 rfl rfl
    have h2 := hf 2 _ y2 rfl rfl
    have h3 := hf 3 _ y3 rfl rfl
    have h4 := hf 4 _ y4 rfl rfl
    obtain ⟨z0, rfl, oz0⟩ := sh_int Try.underlying5 h0
    obtain ⟨z1, rfl, oz1⟩ := sh_int Try.underlying3 h1
    obtain ⟨z2, rfl, oz2⟩ := sh_int Try.underlying5 h2
    obtain ⟨z3, ez3, oz3⟩ := of_GSel h3
    obtain ⟨q4, zN4, zF4, rfl, _⟩ := sh_slice Try.underlying60 h4
    exact ⟨⟨z0, z1, z2, z3, zN4, zF4⟩, (LEq.app (LEq.refl _) (LEq.app (LEq.refl _) (LEq.app (LEq.refl _) (LEq.app ez3 (LEq.app (LEq.refl _) LEq.nil))))), ⟨oz0, oz1, oz2, oz3⟩⟩
def okGStep (x : GStep) : Prop := (Lit.int .u8 x.Do).wf = true ∧ (Lit.int .u8 x.Side).wf = true ∧ okGExpr x.N ∧ True ∧ okGSel x.Sel
theorem of_GStep {n : Nat} {xs : List D} (h : Sh Try.prog n 116 xs) : ∃ x : GStep, LEq xs (encGStep x) ∧ okGStep x := by
  obtain ⟨q, yss, rfl, hl, hf⟩ := sh_struct Try.underlying116 h
  match yss, hl, hf with
  | [y0, y1, y2, y3, y4], _, hf =>
    have h0 := hf 0 _ y0 rfl rfl
    have h1 := hf 1 _ y1 rfl rfl
    have h2 := hf 2 _ y2 rfl rfl
    have h3 := hf 3 _ y3 rfl rfl
    have h4 := hf 4 _ y4 rfl rfl
    obtain ⟨z0, rfl, oz0⟩ := sh_int Try.underlying5 h0
    obtain ⟨z1, rfl, oz1⟩ := sh_int Try.underlying5 h1
    obtain ⟨z2, ez2, oz2⟩ := of_GExpr h2
    obtain ⟨z3, rfl⟩ := sh_bool Try.underlying4 h3
    obtain ⟨z4, ez4, oz4⟩ := of_GSel h4
    exact ⟨⟨z0, z1, z2, z3, z4⟩, (LEq.app (LEq.refl _) (LEq.app (LEq.refl _) (LEq.app ez2 (LEq.app (LEq.refl _) (LEq.app ez4 LEq.nil))))), ⟨oz0, oz1, oz2, trivial, oz4⟩⟩
def okGEffect (x : GEffect) : Prop := (Lit.int .u8 x.Mode).wf = true ∧ (Lit.int .u8 x.Ev).wf = true ∧ (Lit.int .u8 x.Side).wf = true ∧ (∀ y ∈ x.Cond, okGExpr y) ∧ (Lit.int .i64 x.Pay).wf = true ∧ (Lit.int .i64 x.Discard).wf = true ∧ True ∧ (Lit.int .i64 x.Pick).wf = true ∧ okGSel x.Sel ∧ (∀ y ∈ x.Steps, okGStep y)
theorem of_GEffect {n : Nat} {xs : List D} (h : Sh Try.prog n 88 xs) : ∃ x : GEffect, LEq xs (encGEffect x) ∧ okGEffect x := by
  obtain ⟨q, yss, rfl, hl, hf⟩ := sh_struct Try.underlying88 h
  match yss, hl, hf with
  | [y0, y1, y2, y3, y4, y5, y6, y7, y8, y9], _, hf =>
    have h0 := hf 0 _ y0 rfl rfl
    have h1 := hf 1 _ y1 rfl rfl
    have h2 := hf 2 _ y2 rfl rfl
    have h3 := hf 3 _ y3 rfl rfl
    have h4 := hf 4 _ y4 rfl rfl
    have h5 := hf 5 _ y5 rfl rfl
    have h6 := hf 6 _ y6 rfl rfl
    have h7 := hf 7 _ y7 rfl rfl
    have h8 := hf 8 _ y8 rfl rfl
    have h9 := hf 9 _ y9 rfl rfl
    obtain ⟨z0, rfl, oz0⟩ := sh_int Try.underlying5 h0
    obtain ⟨z1, rfl, oz1⟩ := sh_int Try.underlying5 h1
    obtain ⟨z2, rfl, oz2⟩ := sh_int Try.underlying5 h2
    obtain ⟨z3, ez3, oz3⟩ := of_slice (enc := encGExpr) (k := 7) Try.underlying60 (by kernel_rfl) (fun h => of_GExpr h) h3
    obtain ⟨z4, rfl, oz4⟩ := sh_int Try.underlying3 h4
    obtain ⟨z5, rfl, oz5⟩ := sh_int Try.underlying3 h5
    obtain ⟨z6, rfl⟩ := sh_bool Try.underlying4 h6
    obtain ⟨z7, rfl, oz7⟩ := sh_int Try.underlying3 h7
    obtain ⟨z8, ez8, oz8⟩ := of_GSel h8
    obtain ⟨z9, ez9, oz9⟩ := of_slice (enc := encGStep) (k := 13) Try.underlying86 (by kernel_rfl) (fun h => of_GStep h) h9
    exact ⟨⟨z0, z1, z2, z3, z4, z5, z6, z7, z8, z9⟩, (LEq.app (LEq.refl _) (LEq.app (LEq.refl _) (LEq.app (LEq.refl _) (LEq.app ez3 (LEq.app (LEq.refl _) (LEq.app (LEq.refl _) (LEq.app (LEq.refl _) (LEq.app (LEq.refl _) (LEq.app ez8 (LEq.app ez9 LEq.nil)))))))))), ⟨oz0, oz1, oz2, oz3, oz4, oz5, trivial, oz7, oz8, oz9⟩⟩
def okGCard (x : GCard) : Prop := True ∧ (Lit.int .u8 x.Kind).wf = true ∧ (Lit.int .i64 x.Level).wf = true ∧ (Lit.int .i64 x.Attack).wf = true ∧ (Lit.int .i64 x.Guard).wf = true ∧ (∀ y ∈ x.Effects, okGEffect y)
theorem of_GCard {n : Nat} {xs : List D} (h : Sh Try.prog n 106 xs) : ∃ x : GCard, LEq xs (encGCard x) ∧ okGCard x := by
  obtain ⟨q, yss, rfl, hl, hf⟩ := sh_struct Try.underlying106 h
  match yss, hl, hf with
  | [y0, y1, y2, y3, y4, y5], _, hf =>
    have h0 := hf 0 _ y0 rfl rfl
    have h1 := hf 1 _ y1 rfl rfl
    have h2 := hf 2 _ y2 rfl rfl
    have h3 := hf 3 _ y3 rfl rfl
    have h4 := hf 4 _ y4 rfl rfl
    have h5 := hf 5 _ y5 rfl rfl
    obtain ⟨z0, rfl⟩ := sh_string Try.underlying9 h0
    obtain ⟨z1, rfl, oz1⟩ := sh_int Try.underlying5 h1
    obtain ⟨z2, rfl, oz2⟩ := sh_int Try.underlying3 h2
    obtain ⟨z3, rfl, oz3⟩ := sh_int Try.underlying3 h3
    obtain ⟨z4, rfl, oz4⟩ := sh_int Try.underlying3 h4
    obtain ⟨z5, ez5, oz5⟩ := of_slice (enc := encGEffect) (k := 12) Try.underlying104 (by kernel_rfl) (fun h => of_GEffect h) h5
    exact ⟨⟨z0, z1, z2, z3, z4, z5⟩, (LEq.app (LEq.refl _) (LEq.app (LEq.refl _) (LEq.app (LEq.refl _) (LEq.app (LEq.refl _) (LEq.app (LEq.refl _) (LEq.app ez5 LEq.nil)))))), ⟨trivial, oz1, oz2, oz3, oz4, oz5⟩⟩
def okGPiece (x : GPiece) : Prop := (Lit.int .i64 x.Def).wf = true ∧ (Lit.int .i64 x.Attack).wf = true ∧ (Lit.int .i64 x.Guard).wf = true ∧ (Lit.int .u8 x.Owner).wf = true ∧ (Lit.int .u8 x.Has).wf = true ∧ (Lit.int .u8 x.Zone).wf = true ∧ (Lit.int .i64 x.At).wf = true ∧ True ∧ True ∧ (Lit.int .i64 x.Since).wf = true ∧ (Lit.int .u8 x.Used).wf = true ∧ True ∧ True ∧ (Lit.int .i64 x.Boost).wf = true
theorem of_GPiece {n : Nat} {xs : List D} (h : Sh Try.prog n 35 xs) : ∃ x : GPiece, LEq xs (encGPiece x) ∧ okGPiece x := by
  obtain ⟨q, yss, rfl, hl, hf⟩ := sh_struct Try.underlying35 h
  match yss, hl, hf with
  | [y0, y1, y2, y3, y4, y5, y6, y7, y8, y9, y10, y11, y12, y13], _, hf =>
    have h0 := hf 0 _ y0 rfl rfl
    have h1 := hf 1 _ y1 rfl rfl
    have h2 := hf 2 _ y2 rfl rfl
    have h3 := hf 3 _ y3 rfl rfl
    have h4 := hf 4 _ y4 rfl rfl
    have h5 := hf 5 _ y5 rfl rfl
    have h6 := hf 6 _ y6 rfl rfl
    have h7 := hf 7 _ y7 rfl rfl
    have h8 := hf 8 _ y8 rfl rfl
    have h9 := hf 9 _ y9 rfl rfl
    have h10 := hf 10 _ y10 rfl rfl
    have h11 := hf 11 _ y11 rfl rfl
    have h12 := hf 12 _ y12 rfl rfl
    have h13 := hf 13 _ y13 rfl rfl
    obtain ⟨z0, rfl, oz0⟩ := sh_int Try.underlying3 h0
    obtain ⟨z1, rfl, oz1⟩ := sh_int Try.underlying3 h1
    obtain ⟨z2, rfl, oz2⟩ := sh_int Try.underlying3 h2
    obtain ⟨z3, rfl, oz3⟩ := sh_int Try.underlying5 h3
    obtain ⟨z4, rfl, oz4⟩ := sh_int Try.underlying5 h4
    obtain ⟨z5, rfl, oz5⟩ := sh_int Try.underlying5 h5
    obtain ⟨z6, rfl, oz6⟩ := sh_int Try.underlying3 h6
    obtain ⟨z7, rfl⟩ := sh_bool Try.underlying4 h7
    obtain ⟨z8, rfl⟩ := sh_bool Try.underlying4 h8
    obtain ⟨z9, rfl, oz9⟩ := sh_int Try.underlying3 h9
    obtain ⟨z10, rfl, oz10⟩ := sh_int Try.underlying5 h10
    obtain ⟨z11, rfl⟩ := sh_bool Try.underlying4 h11
    obtain ⟨z12, rfl⟩ := sh_bool Try.underlying4 h12
    obtain ⟨z13, rfl, oz13⟩ := sh_int Try.underlying3 h13
    exact ⟨⟨z0, z1, z2, z3, z4, z5, z6, z7, z8, z9, z10, z11, z12, z13⟩, (LEq.app (LEq.refl _) (LEq.app (LEq.refl _) (LEq.app (LEq.refl _) (LEq.app (LEq.refl _) (LEq.app (LEq.refl _) (LEq.app (LEq.refl _) (LEq.app (LEq.refl _) (LEq.app (LEq.refl _) (LEq.app (LEq.refl _) (LEq.app (LEq.refl _) (LEq.app (LEq.refl _) (LEq.app (LEq.refl _) (LEq.app (LEq.refl _) (LEq.app (LEq.refl _) LEq.nil)))))))))))))), ⟨oz0, oz1, oz2, oz3, oz4, oz5, oz6, trivial, trivial, oz9, oz10, trivial, trivial, oz13⟩⟩
def okGEvent (x : GEvent) : Prop := (Lit.int .u8 x.Ev).wf = true ∧ (Lit.int .i64 x.Moment).wf = true ∧ (Lit.int .i64 x.Piece).wf = true ∧ (Lit.int .u8 x.Who).wf = true
theorem of_GEvent {n : Nat} {xs : List D} (h : Sh Try.prog n 58 xs) : ∃ x : GEvent, LEq xs (encGEvent x) ∧ okGEvent x := by
  obtain ⟨q, yss, rfl, hl, hf⟩ := sh_struct Try.underlying58 h
  match yss, hl, hf with
  | [y0, y1, y2, y3], _, hf =>
    have h0 := hf 0 _ y0 rfl rfl
    have h1 := hf 1 _ y1 rfl rfl
    have h2 := hf 2 _ y2 rfl rfl
    have h3 := hf 3 _ y3 rfl rfl
    obtain ⟨z0, rfl, oz0⟩ := sh_int Try.underlying5 h0
    obtain ⟨z1, rfl, oz1⟩ := sh_int Try.underlying3 h1
    obtain ⟨z2, rfl, oz2⟩ := sh_int Try.underlying3 h2
    obtain ⟨z3, rfl, oz3⟩ := sh_int Try.underlying5 h3
    exact ⟨⟨z0, z1, z2, z3⟩, (LEq.app (LEq.refl _) (LEq.app (LEq.refl _) (LEq.app (LEq.refl _) (LEq.app (LEq.refl _) LEq.nil)))), ⟨oz0, oz1, oz2, oz3⟩⟩
theorem of_A24 {n : Nat} {xs : List D} (h : Sh Try.prog n 24 xs) : ∃ x : (Int × Int), LEq xs (encA24 x) ∧ ((Lit.int .i64 x.1).wf = true ∧ (Lit.int .i64 x.2).wf = true) := by
  obtain ⟨q, yss, rfl, hl, hf⟩ := sh_array Try.underlying24 h
  match yss, hl, hf with
  | [y0, y1], _, hf =>
    have h0 := hf y0 (by simp)
    have h1 := hf y1 (by simp)
    obtain ⟨a, rfl, oa⟩ := sh_int Try.underlying3 h0
    obtain ⟨b, rfl, ob⟩ := sh_int Try.underlying3 h1
    exact ⟨(a, b), LEq.app (LEq.refl _) (LEq.app (LEq.refl _) LEq.nil), oa, ob⟩
theorem of_A26 {n : Nat} {xs : List D} (h : Sh Try.prog n 26 xs) : ∃ x : (Bool × Bool), LEq xs (encA26 x) ∧ (True ∧ True) := by
  obtain ⟨q, yss, rfl, hl, hf⟩ := sh_array Try.underlying26 h
  match yss, hl, hf with
  | [y0, y1], _, hf =>
    have h0 := hf y0 (by simp)
    have h1 := hf y1 (by simp)
    obtain ⟨a, rfl⟩ := sh_bool Try.underlying4 h0
    obtain ⟨b, rfl⟩ := sh_bool Try.underlying4 h1
    exact ⟨(a, b), LEq.app (LEq.refl _) (LEq.app (LEq.refl _) LEq.nil), trivial, trivial⟩
def okGTable (x : GTable) : Prop := (∀ y ∈ x.Kinds, okGCard y) ∧ (∀ y ∈ x.Pieces, okGPiece y) ∧ ((Lit.int .i64 x.Life.1).wf = true ∧ (Lit.int .i64 x.Life.2).wf = true) ∧ (Lit.int .i64 x.Turn).wf = true ∧ (Lit.int .u8 x.Player).wf = true ∧ (Lit.int .i64 x.Moment).wf = true ∧ (∀ y ∈ x.Events, okGEvent y) ∧ (True ∧ True)
theorem of_GTable {n : Nat} {xs : List D} (h : Sh Try.prog n 28 xs) : ∃ x : GTable, LEq xs (encGTable x) ∧ okGTable x := by
  obtain ⟨q, yss, rfl, hl, hf⟩ := sh_struct Try.underlying28 h
  match yss, hl, hf with
  | [y0, y1, y2, y3, y4, y5, y6, y7], _, hf =>
    have h0 := hf 0 _ y0 rfl rfl
    have h1 := hf 1 _ y1 rfl rfl
    have h2 := hf 2 _ y2 rfl rfl
    have h3 := hf 3 _ y3 rfl rfl
    have h4 := hf 4 _ y4 rfl rfl
    have h5 := hf 5 _ y5 rfl rfl
    have h6 := hf 6 _ y6 rfl rfl
    have h7 := hf 7 _ y7 rfl rfl
    obtain ⟨z0, ez0, oz0⟩ := of_slice (enc := encGCard) (k := 6) Try.underlying22 (by kernel_rfl) (fun h => of_GCard h) h0
    obtain ⟨z1, ez1, oz1⟩ := of_slice (enc := encGPiece) (k := 14) Try.underlying23 (by kernel_rfl) (fun h => of_GPiece h) h1
    obtain ⟨z2, ez2, oz2⟩ := of_A24 h2
    obtain ⟨z3, rfl, oz3⟩ := sh_int Try.underlying3 h3
    obtain ⟨z4, rfl, oz4⟩ := sh_int Try.underlying5 h4
    obtain ⟨z5, rfl, oz5⟩ := sh_int Try.underlying3 h5
    obtain ⟨z6, ez6, oz6⟩ := of_slice (enc := encGEvent) (k := 4) Try.underlying25 (by kernel_rfl) (fun h => of_GEvent h) h6
    obtain ⟨z7, ez7, oz7⟩ := of_A26 h7
    exact ⟨⟨z0, z1, z2, z3, z4, z5, z6, z7⟩, (LEq.app ez0 (LEq.app ez1 (LEq.app ez2 (LEq.app (LEq.refl _) (LEq.app (LEq.refl _) (LEq.app (LEq.refl _) (LEq.app ez6 (LEq.app ez7 LEq.nil)))))))), ⟨oz0, oz1, oz2, oz3, oz4, oz5, oz6, oz7⟩⟩
end Go.Jo.S
