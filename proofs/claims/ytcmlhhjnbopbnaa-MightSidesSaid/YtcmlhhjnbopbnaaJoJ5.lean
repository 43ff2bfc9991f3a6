/- That the machine's small operation does what 'pop' says: slices, builds, calls, and all of them together. Over any program. -/
import Derived.Test.YtcmlhhjnbopbnaaJoJ4
import Derived.Great.BuildSlice
namespace Go.Jo
open Go.RowKit
set_option autoImplicit false
section
variable {P : Program} {T : Nat → Option TI} {Q O : Nat → Bool} {h : List HObj} {g : G} {w : World} {o : Oper} {a : Act}

theorem box_sound {t : TypeId} {x : Operand} {av : AV} (hx : Rep g.H g.β av (a.eval x)) (ho : o.op = .box t x) {cs : List AV} (hc : av.cells = some cs) : OutOK P o a w g (.box True cs t) := by
  intro _
  obtain ⟨h1, h2⟩ := AV.cells_rep hx hc
  exact ⟨(a.eval x).cells, by simp [execOp, ho, Instr.box, newVar, newRow], h1, h2⟩

theorem alloc_sound {t : TypeId} {ti : TI} (hT : tiOf P t = some ti) (ho : o.op = .alloc t) : OutOK P o a w g (.box True (ti.zero.map fun v => .d (.v v)) t) := by
  obtain ⟨info, d, z, hi, hu, hz, htk, hsz, hby, hag, hzero, hone, hfl, hes, hea⟩ := tiOf_spec hT
  intro _
  refine ⟨z.cells, by simp [execOp, ho, Instr.alloc, newVar, newRow, run_zeroValue' hi hz], by simp [hzero], fun i x hx => ?_⟩
  simp only [List.getElem?_map, Option.map_eq_some_iff] at hx
  obtain ⟨v, hv, rfl⟩ := hx
  have : z.cells.getD i undef = v := by
    rw [hzero] at hv
    simp only [Array.getElem?_toList] at hv
    simp [Array.getD_eq_getD_getElem?, hv]
  rw [this]
  exact .d (.v (hone v (List.mem_of_getElem? hv)))

theorem intOr_spec {x : Option AV} {y : Option Value} {n m : Int} (hxy : ∀ av, x = some av → ∃ v, y = some v ∧ Rep g.H g.β av v) (h : intOr x n = some m) (hn : x = none → y = none) :
    (x = none ∧ y = none ∧ m = n) ∨ ∃ k, y = some (.int k m) := by
  cases x with
  | none => simp only [intOr, Option.some.injEq] at h; exact .inl ⟨rfl, hn rfl, h.symm⟩
  | some av =>
    obtain ⟨v, hv, hr⟩ := hxy av rfl
    unfold intOr at h
    split at h
    · cases ‹some av = none›
    · rename_i k m' e; cases e; simp only [Option.some.injEq] at h; subst h; exact .inr ⟨k, by rw [hv, hr.int_inv]⟩
    · cases h

theorem run_sliceBounds {isSlice : Bool} {len cap : Nat} {low high : Option Value} {l h' : Int} (hl : (low = none ∧ l = 0) ∨ ∃ k, low = some (.int k l)) (hh : (high = none ∧ h' = (len : Int)) ∨ ∃ k, high = some (.int k h'))
    (h0 : 0 ≤ l) (h1 : l ≤ h') (h2 : h' ≤ (len : Int)) (h3 : len ≤ cap) : (Instr.sliceBounds isSlice len cap low high none).run P w = .ok (l.toNat, h'.toNat, cap) w := by
  have hc : h' ≤ (cap : Int) := by omega
  have h0' : 0 ≤ h' := by omega
  rcases hl with ⟨rfl, rfl⟩ | ⟨k, rfl⟩ <;> rcases hh with ⟨rfl, rfl⟩ | ⟨k', rfl⟩
  · simp [Instr.sliceBounds]
  · simp [Instr.sliceBounds, Instr.sliceBound, asIntOf, h0', hc]
  · have : l ≤ (len : Int) := h1
    simp [Instr.sliceBounds, Instr.sliceBound, asIntOf, h0, this]
  · have e : ((h'.toNat : Nat) : Int) = h' := Int.toNat_of_nonneg h0'
    have h5 : ¬ max h' 0 < l := by omega
    simp [Instr.sliceBounds, Instr.sliceBound, asIntOf, h0, h0', hc]
    intro h6; exact absurd h6 h5

theorem slice_sound {t : TypeId} {ti : TI} (hT : tiOf P t = some ti) {x : Operand} {lo hi : Option Operand} {av : AV} {e : Operand → AV} (hx : Rep g.H g.β av (a.eval x))
    (hlo : ∀ y, lo = some y → Rep g.H g.β (e y) (a.eval y)) (hhi : ∀ y, hi = some y → Rep g.H g.β (e y) (a.eval y)) (ho : o.op = .slice t x lo hi none) :
    OutOK P o a w g (aslice ti av (lo.map e) (hi.map e)) := by
  obtain ⟨info, d, z, hi', hu, hz, htk, hsz, hby, hag, hzero, hone, hfl, hes, hea⟩ := tiOf_spec hT
  have conv : ∀ {q : Option Operand} {n m : Int}, (∀ y, q = some y → Rep g.H g.β (e y) (a.eval y)) → intOr (q.map e) n = some m → (q.map a.eval = none ∧ m = n) ∨ ∃ k, q.map a.eval = some (.int k m) := by
    intro q n m hq hm
    rcases intOr_spec (g := g) (y := q.map a.eval) (fun av hav => by
      cases q with
      | none => cases hav
      | some y => simp only [Option.map_some, Option.some.injEq] at hav ⊢; subst hav; exact ⟨_, rfl, hq y rfl⟩) hm (fun hn => by cases q <;> simp_all) with ⟨_, h1, h2⟩ | h1
    · exact .inl ⟨h1, h2⟩
    · exact .inr h1
  unfold aslice
  split
  · rename_i s hs
    have hd := tk_string htk hs
    subst hd
    split
    · rename_i l h' e1 e2
      rintro ⟨h0, h1, h2⟩
      refine ⟨_, ?_, .d (.v rfl)⟩
      simp [execOp, ho, Instr.sliceAt, Instr.slice, run_underlying' hu, hx.lit_inv, run_sliceBounds (P := P) (w := w) (isSlice := false) (conv hlo e1) (conv hhi e2) h0 h1 h2 (Nat.le_refl _)]
    · trivial
  · rename_i el k n f hs
    have hd := tk_slice htk hs
    subst hd
    simp only at hes
    split
    · rename_i l h' e1 e2
      split
      · rename_i hk
        rintro ⟨h0, h1, h2⟩
        obtain ⟨ei, he1, he2⟩ := esize_info (P := P) (t := el) (by rw [← hes]; omega)
        generalize hv : a.eval x = v at hx
        cases hx with
        | d hx =>
        cases hx with
        | sl val hc hm hzz hl h11 hH hr =>
        rename_i A c
        have hsb := run_sliceBounds (P := P) (w := w) (isSlice := true) (conv hlo e1) (conv hhi e2) h0 h1 h2 hc
        refine ⟨.slice (if c = l.toNat then A else A.map (·.add (l.toNat * k))) (h'.toNat - l.toNat) (c - l.toNat), ?_, .d ?_⟩
        · simp [execOp, ho, Instr.sliceAt, Instr.slice, run_underlying' hu, hv, hsb, run_sizeOf' he1, he2, ← hes, hk.1]
        · have e3 : (h' - l).toNat = h'.toNat - l.toNat := by omega
          rw [e3]
          refine .sl (fun i j => val (l.toNat + i) j) (by omega) (by omega) (fun e => by split at e <;> (try simp at e) <;> (have := hzz e; omega)) (fun i hi => hl _ (by omega)) (fun i j hi hj => h11 _ _ (by omega) hj) (fun i j hi hj => ?_) (fun i j y hi hy => hr _ j y (by omega) hy)
          obtain ⟨ad, hA, hh⟩ := hH (l.toNat + i) j (by omega) hj
          refine ⟨ad.add (l.toNat * k), ?_, ?_⟩
          · rw [if_neg (by omega), hA]; rfl
          · rw [add_add, show l.toNat * k + (i * k + j) = (l.toNat + i) * k + j from by rw [Nat.add_mul]; omega]; exact hh
      · trivial
    · trivial
  · trivial

theorem extract_sound {t : Operand} {i : Nat} {av : AV} (hx : Rep g.H g.β av (a.eval t)) (ho : o.op = .extract t i) :
    OutOK P o a w g (aextr i av) := by
  have key : ∀ {vs : Array Value} {n : Nat}, a.eval t = .tuple vs → vs.size = n → i < n → (execOp a.eval o).run P w = .ok (.value (vs.getD i undef)) w := by
    intro vs n hv hs hi
    have hg := getD_some (show i < vs.size by omega)
    generalize vs.getD i undef = u at hg
    simp [execOp, ho, hv, Instr.extract, hg]
  unfold aextr
  split
  · rename_i ds
    generalize hv : a.eval t = v at *
    cases hx with
    | d hx =>
    cases hx with
    | tu hs hh =>
    split
    · rename_i y hy
      intro _
      exact ⟨_, key rfl hs (List.getElem?_eq_some_iff.1 hy).1, .d (hh i y hy)⟩
    · trivial
  · rename_i cs
    generalize hv : a.eval t = v at *
    cases hx with
    | tu hs hh =>
    split
    · rename_i y hy
      intro _
      exact ⟨_, key rfl hs (List.getElem?_eq_some_iff.1 hy).1, hh i y hy⟩
    · trivial
  · trivial

mutual
theorem AV.toD_rep : ∀ {x : AV} {y : D} {v : Value}, Rep g.H g.β x v → x.toD = some y → RepD g.H y v
  | .d x, y, v, h, e => by simp only [AV.toD, Option.some.injEq] at e; subst e; exact h.data
  | .ag cs, y, v, h, e => by
    simp only [AV.toD, Option.map_eq_some_iff] at e
    obtain ⟨ds, h1, rfl⟩ := e
    cases h with
    | ag hs hh =>
      rename_i vs
      exact .ag (by rw [hs]; exact toDs_len h1) (fun i y hy => toDs_rep (f := fun i => vs.getD i undef) hh h1 i y hy)
  | .tu _, _, _, _, e | .rp _, _, _, _, e | .bp _ _, _, _, _, e | .ow _ _ _, _, _, _, e | .ep _ _ _ _, _, _, _, e | .fn _ _ _, _, _, _, e | .opt _ _, _, _, _, e | .junk, _, _, _, e => by simp [AV.toD] at e
theorem toDs_rep : ∀ {l : List AV} {ds : List D} {f : Nat → Value}, (∀ i x, l[i]? = some x → Rep g.H g.β x (f i)) → toDs l = some ds → ∀ i y, ds[i]? = some y → RepD g.H y (f i)
  | [], ds, f, h, e, i, y, hy => by simp only [toDs, Option.some.injEq] at e; subst e; simp at hy
  | x :: l, ds, f, h, e, i, y, hy => by
    simp only [toDs] at e
    split at e
    · rename_i y' ys h1 h2
      simp only [Option.some.injEq] at e
      subst e
      cases i with
      | zero => simp at hy; subst hy; exact AV.toD_rep (h 0 x rfl) h1
      | succ i => exact toDs_rep (f := fun i => f (i + 1)) (fun i x hx => h (i + 1) x (by simpa using hx)) h2 i y (by simpa using hy)
    · cases e
theorem toDs_len : ∀ {l : List AV} {ds : List D}, toDs l = some ds → l.length = ds.length
  | [], ds, e => by simp only [toDs, Option.some.injEq] at e; subst e; rfl
  | x :: l, ds, e => by
    simp only [toDs] at e
    split at e
    · rename_i y ys h1 h2
      simp only [Option.some.injEq] at e
      subst e
      simp [toDs_len h2]
    · cases e
end

/-- The machine's writing of one part's cells. -/
theorem wr_rep {xs : List AV} : ∀ {cs : List AV} {vs : Array Value} {us : List Value} (off : Nat), vs.size = cs.length → (∀ i x, cs[i]? = some x → Rep g.H g.β x (vs.getD i undef)) →
    us.length = xs.length → (∀ (i : Nat) (x : AV) (u : Value), xs[i]? = some x → us[i]? = some u → Rep g.H g.β x u) →
    ∀ k, let r := (us.zipIdx k).foldl (fun (acc : Array Value) (c : Value × Nat) => acc.setIfInBounds (off + c.2) c.1) vs
      r.size = (wr cs (off + k) xs).length ∧ ∀ i x, (wr cs (off + k) xs)[i]? = some x → Rep g.H g.β x (r.getD i undef) := by
  induction xs with
  | nil =>
    intro cs vs us off hs hh hl hr k
    have : us = [] := by simpa using hl
    subst this
    exact ⟨hs, hh⟩
  | cons x xs ih =>
    intro cs vs us off hs hh hl hr k
    cases us with
    | nil => simp at hl
    | cons u us =>
      simp only [List.zipIdx_cons, List.foldl_cons, wr]
      have := ih (cs := cs.set (off + k) x) (vs := vs.setIfInBounds (off + k) u) (us := us) off (by simp [hs]) (fun i y hy => by
        rw [List.getElem?_set] at hy
        rw [Array.getD_eq_getD_getElem?, Array.getElem?_setIfInBounds]
        by_cases e : off + k = i
        · rw [if_pos e] at hy ⊢
          split at hy
          · rename_i hlt
            simp only [Option.some.injEq] at hy; subst hy
            rw [if_pos (by rw [hs]; exact hlt)]
            exact hr 0 x u rfl rfl
          · cases hy
        · rw [if_neg e] at hy ⊢
          have := hh i y hy
          rwa [Array.getD_eq_getD_getElem?] at this) (by simpa using hl) (fun i y v hy hv => hr (i + 1) y v (by simpa using hy) (by simpa using hv)) (k + 1)
      simpa [Nat.add_assoc] using this

theorem wr_length : ∀ (xs cs : List AV) (off : Nat), (wr cs off xs).length = cs.length
  | [], _, _ => rfl
  | x :: xs, cs, off => by simp [wr, wr_length xs]


theorem foldl_zipIdx (us : Array Value) (vs : Array Value) (off : Nat) :
    us.zipIdx.foldl (fun (cs : Array Value) (x : Value × Nat) => cs.setIfInBounds (off + x.2) x.1) vs = (us.toList.zipIdx 0).foldl (fun (cs : Array Value) (x : Value × Nat) => cs.setIfInBounds (off + x.2) x.1) vs := by
  rw [← Array.foldl_toList, Array.toList_zipIdx]

theorem fill_rep {place : Nat → Option (Nat × Nat)} {fillX : List AV → List (Nat × AV) → Option (List AV)} (hnil : ∀ cs, fillX cs [] = some cs)
    (hcons : ∀ cs i x rest r, fillX cs ((i, x) :: rest) = some r → ∃ off sz xs, place i = some (off, sz) ∧ x.cells = some xs ∧ xs.length = sz ∧ off + xs.length ≤ cs.length ∧ fillX (wr cs off xs) rest = some r) :
    ∀ (ps : List (Nat × AV)) (vps : List (Nat × Value)) (cs : List AV) (vs : Array Value) (r : List AV), fillX cs ps = some r → vps.length = ps.length →
      (∀ (i : Nat) (p : Nat × AV) (q : Nat × Value), ps[i]? = some p → vps[i]? = some q → p.1 = q.1 ∧ Rep g.H g.β p.2 q.2) →
      vs.size = cs.length → (∀ i x, cs[i]? = some x → Rep g.H g.β x (vs.getD i undef)) →
      ∃ us, Instr.fill place vs vps = some us ∧ us.size = r.length ∧ ∀ i x, r[i]? = some x → Rep g.H g.β x (us.getD i undef)
  | [], vps, cs, vs, r, h, hl, hp, hs, hh => by
    rw [hnil] at h
    simp only [Option.some.injEq] at h; subst h
    have : vps = [] := by simpa using hl
    subst this
    exact ⟨vs, rfl, hs, hh⟩
  | (i, x) :: ps, vps, cs, vs, r, h, hl, hp, hs, hh => by
    cases vps with
    | nil => simp at hl
    | cons q vps =>
      obtain ⟨i', v⟩ := q
      obtain ⟨e, hx⟩ := hp 0 (i, x) (i', v) rfl rfl
      simp only at e hx
      subst e
      obtain ⟨off, sz, xs, hpl, hc, hsz, hle, hrest⟩ := hcons cs i x ps r h
      obtain ⟨c1, c2⟩ := AV.cells_rep hx hc
      have hw := wr_rep (xs := xs) (us := v.cells.toList) (g := g) off hs hh (by simpa using c1) (fun j y u hy hu => by
        have := c2 j y hy
        simp only [Array.getElem?_toList] at hu
        rwa [Array.getD_eq_getD_getElem?, hu] at this) 0
      simp only [Nat.add_zero] at hw
      obtain ⟨us, h1, h2, h3⟩ := fill_rep hnil hcons ps vps (wr cs off xs) _ r hrest (by simpa using hl) (fun j p q hpj hqj => hp (j + 1) p q (by simpa using hpj) (by simpa using hqj)) hw.1 hw.2
      refine ⟨us, ?_, h2, h3⟩
      simp only [Instr.fill, hpl]
      rw [if_neg (by simp [c1, hsz, hs]; omega), foldl_zipIdx]
      exact h1

theorem zero_rep {ti : TI} {z : Value} (hzero : ti.zero = z.cells.toList) (hone : ∀ v ∈ ti.zero, v.oneCell' = true) : z.cells.size = (ti.zero.map fun v => AV.d (.v v)).length ∧
    ∀ i x, (ti.zero.map fun v => AV.d (.v v))[i]? = some x → Rep g.H g.β x (z.cells.getD i undef) := by
  refine ⟨by simp [hzero], fun i x hx => ?_⟩
  simp only [List.getElem?_map, Option.map_eq_some_iff] at hx
  obtain ⟨v, hv, rfl⟩ := hx
  have : z.cells.getD i undef = v := by
    rw [hzero] at hv
    simp only [Array.getElem?_toList] at hv
    simp [Array.getD_eq_getD_getElem?, hv]
  rw [this]
  exact .d (.v (hone v (List.mem_of_getElem? hv)))

theorem fillS_cons {flds : List (Nat × Nat × Bool × Bool)} : ∀ cs i x rest r, fillS flds cs ((i, x) :: rest) = some r → ∃ off sz xs, ((flds[i]?).map fun f => (f.1, f.2.1)) = some (off, sz) ∧ x.cells = some xs ∧ xs.length = sz ∧ off + xs.length ≤ cs.length ∧ fillS flds (wr cs off xs) rest = some r := by
  intro cs i x rest r h
  simp only [fillS] at h
  split at h
  · rename_i o sz _ _ xs h1 h2
    split at h
    · rename_i hc; exact ⟨o, sz, xs, by simp [h1], h2, hc.1, hc.2, h⟩
    · cases h
  · cases h

theorem fillA_cons {k : Nat} : ∀ cs i x rest r, fillA k cs ((i, x) :: rest) = some r → ∃ off sz xs, (fun i => some (i * k, k)) i = some (off, sz) ∧ x.cells = some xs ∧ xs.length = sz ∧ off + xs.length ≤ cs.length ∧ fillA k (wr cs off xs) rest = some r := by
  intro cs i x rest r h
  simp only [fillA] at h
  split at h
  · rename_i xs h2
    split at h
    · rename_i hc; exact ⟨i * k, k, xs, rfl, h2, hc.1, hc.2, h⟩
    · cases h
  · cases h

theorem parts_rep {parts : Array (Nat × Operand)} {e : Operand → AV} (he : ∀ p ∈ parts.toList, Rep g.H g.β (e p.2) (a.eval p.2)) :
    ∀ (i : Nat) (p : Nat × AV) (q : Nat × Value), (parts.toList.map fun p => (p.1, e p.2))[i]? = some p → (parts.map fun p => (p.1, a.eval p.2)).toList[i]? = some q → p.1 = q.1 ∧ Rep g.H g.β p.2 q.2 := by
  intro i p q hp hq
  simp only [List.getElem?_map, Option.map_eq_some_iff, Array.toList_map] at hp hq
  obtain ⟨x, hx, rfl⟩ := hp
  obtain ⟨y, hy, rfl⟩ := hq
  rw [hx] at hy; cases hy
  exact ⟨rfl, he x (List.mem_of_getElem? hx)⟩

theorem build_sound {t : TypeId} {ti : TI} (hT : tiOf P t = some ti) {parts : Array (Nat × Operand)} {e : Operand → AV} (he : ∀ p ∈ parts.toList, Rep g.H g.β (e p.2) (a.eval p.2)) (ho : o.op = .build t parts) :
    OutOK P o a w g (abuild ti (parts.toList.map fun p => (p.1, e p.2))) := by
  obtain ⟨info, d, z, hi, hu, hz, htk, hsz, hby, hag, hzero, hone, hfl, hes, hea⟩ := tiOf_spec hT
  obtain ⟨z1, z2⟩ := zero_rep (g := g) hzero hone
  unfold abuild
  split
  · rename_i hs
    obtain ⟨fs, rfl⟩ := tk_struct htk hs
    split
    · rename_i cs hf
      intro hp
      obtain ⟨us, h1, h2, h3⟩ := fill_rep (g := g) (place := fun i => (ti.flds[i]?).map fun f => (f.1, f.2.1)) (fillX := fillS ti.flds) (fun _ => rfl) fillS_cons _ (parts.map fun p => (p.1, a.eval p.2)).toList _ z.cells cs hf (by simp) (parts_rep he) z1 z2
      refine ⟨.agg us, ?_, mkAg_rep h2 h3⟩
      have hpl : fs.toList.mapM (fun f => (P.info? f.type).map fun i => (f.offset, i.size)) = some (ti.flds.map fun f => (f.1, f.2.1)) := by
        rw [hfl] at hp ⊢
        simp only at hp ⊢
        generalize fs.toList = l at *
        clear hf hfl hz hi hu htk hag
        induction l with
        | nil => rfl
        | cons f l ih =>
          obtain ⟨i, d', k1, k2, k3⟩ := szOf_info (P := P) (t := f.type) (hp (f.offset, szOf P f.type, agOf P f.type, plainOf P f.type && f.name != "_") (by simp))
          simp only [List.mapM_cons, k1, Option.map_some, List.map_cons]
          rw [ih (fun x hx => hp x (by simp at hx ⊢; exact .inr hx))]
          simp [k3]
      have hb : P.built t (parts.map fun p => (p.1, a.eval p.2)).toList = some us := by
        simp only [Program.built, hi, hu, hz, hpl]
        rw [← h1]
        congr 1
        funext i
        simp
      have := run_build w t (parts.map fun p => (p.1, a.eval p.2)) us hb
      simp [execOp, ho, this]
    · trivial
  · rename_i n el hs
    have hd := tk_array htk hs
    subst hd
    simp only at hes
    split
    · trivial
    · rename_i h00
      obtain ⟨ei, he1, he2⟩ := esize_info (P := P) (t := el) (by rw [← hes]; exact h00)
      split
      · rename_i cs hf
        intro _
        obtain ⟨us, h1, h2, h3⟩ := fill_rep (g := g) (place := fun i => some (i * ti.esize, ti.esize)) (fillX := fillA ti.esize) (fun _ => rfl) fillA_cons _ (parts.map fun p => (p.1, a.eval p.2)).toList _ z.cells cs hf (by simp) (parts_rep he) z1 z2
        refine ⟨.agg us, ?_, mkAg_rep h2 h3⟩
        have hb : P.built t (parts.map fun p => (p.1, a.eval p.2)).toList = some us := by
          simp only [Program.built, hi, hu, hz, he1, he2, ← hes]
          exact h1
        have := run_build w t (parts.map fun p => (p.1, a.eval p.2)) us hb
        simp [execOp, ho, this]
      · trivial
  · trivial

theorem buildSlice_sound {own : Bool} {t el : TypeId} {ti te : TI} (hT : tiOf P t = some ti) (hel : ti.tk = .slice el) (hTe : tiOf P el = some te) {len : Nat} {parts : Array (Nat × Operand)} {e : Operand → AV}
    (he : ∀ p ∈ parts.toList, Rep g.H g.β (e p.2) (a.eval p.2)) (ho : o.op = .buildSlice t len parts) : OutOK P o a w g (abuildSlice own te el len (parts.toList.map fun p => (p.1, e p.2))) := by
  obtain ⟨info, d, z, hi, hu, hz, htk, hsz, hby, hag, hzero, hone, hfl, hes, hea⟩ := tiOf_spec hT
  obtain ⟨info', d', z', hi', hu', hz', htk', hsz', hby', hag', hzero', hone', hfl', hes', hea'⟩ := tiOf_spec hTe
  have hd := tk_slice htk hel
  subst hd
  unfold abuildSlice
  split
  · trivial
  · rename_i hc
    simp only [not_or] at hc
    split
    · rename_i cs hf
      split
      · rename_i ds hds
        have key : ds.all D.one = true → ∃ vs : Array Value, (execOp a.eval o).run P w = .ok (.value (.slice (some ⟨w.heap.size, 0, none⟩) len len)) (w.alloc (.cells vs el)) ∧ vs.size = len * te.size ∧ len ≤ maxLen ∧
            (∀ i, i < len → ((ds.drop (i * te.size)).take te.size).length = te.size) ∧ (∀ i j, i < len → j < te.size → (vs.getD (i * te.size + j) undef).oneCell' = true) ∧
            ∀ i j x, i < len → ((ds.drop (i * te.size)).take te.size)[j]? = some x → RepD g.H x (vs.getD (i * te.size + j) undef) := by
         intro hone1
         have e0 : cs = ds.map .d := allD_spec hds
         obtain ⟨us, h1, h2, h3⟩ := fill_rep (g := g) (place := fun i => some (i * te.size, te.size)) (fillX := fillA te.size) (fun _ => rfl) fillA_cons _ (parts.map fun p => (p.1, a.eval p.2)).toList _
           ((Array.range (len * te.size)).map (z'.cells[· % z'.cells.size]!)) cs hf (by simp) (parts_rep he) (by simp) (fun i x hx => by
             have := List.mem_of_getElem? hx
             rw [List.mem_replicate] at this
             rw [this.2]; exact .junk)
         have hlen : cs.length = len * te.size := by
           have : ∀ (ps : List (Nat × AV)) (cs r : List AV), fillA te.size cs ps = some r → r.length = cs.length := by
             intro ps
             induction ps with
             | nil => intro cs r h; simp only [fillA, Option.some.injEq] at h; rw [h]
             | cons p ps ih =>
               intro cs r h
               obtain ⟨i, x⟩ := p
               obtain ⟨off, sz, xs, _, _, _, _, hr⟩ := fillA_cons _ _ _ _ _ h
               rw [ih _ _ hr, wr_length]
           rw [this _ _ _ hf, List.length_replicate]
         have hnz : len * te.size ≠ 0 := Nat.mul_ne_zero hc.2.1 hc.1
         have hdl : ds.length = len * te.size := by rw [← hlen, e0]; simp
         refine ⟨us, ?_, by rw [h2, hlen], ?_, fun i hi => ?_, fun i j hi hj => ?_, fun i j x hi hx => ?_⟩
         · have := run_buildSlice w t el len (parts.map fun p => (p.1, a.eval p.2)) us info' z' hu hi' hz' (by rw [← hsz']; omega) (by rw [← hsz']; exact hnz) (by rw [← hsz']; exact h1)
           simp [execOp, ho, this]
         · have h5 : len * 1 ≤ len * te.size := Nat.mul_le_mul_left len (by omega)
           unfold maxLen; omega
         · rw [List.length_take, List.length_drop]
           have : ds.length = len * te.size := by rw [← hlen, e0]; simp
           have h4 : (i + 1) * te.size ≤ len * te.size := Nat.mul_le_mul_right _ (by omega)
           rw [Nat.add_mul] at h4
           omega
         · have h4 : (i + 1) * te.size ≤ len * te.size := Nat.mul_le_mul_right _ (by omega)
           rw [Nat.add_mul] at h4
           have hx : i * te.size + j < ds.length := by omega
           have h8 := (h3 (i * te.size + j) (.d ds[i * te.size + j]) (by rw [e0]; simp [hx])).data
           have h9 := (List.all_eq_true.1 hone1) ds[i * te.size + j] (List.getElem_mem hx)
           refine h8.one (fun cs e => ?_) (fun cs e => ?_) <;> (rw [e] at h9; cases h9)
         · rw [List.getElem?_take] at hx
           split at hx
           · rw [List.getElem?_drop] at hx
             exact (h3 (i * te.size + j) (.d x) (by rw [e0]; simp [hx])).data
           · cases hx
        split
        · exact key
        · exact key
      · trivial
    · trivial

theorem makeSlice_sound {t el : TypeId} {ti te : TI} (hT : tiOf P t = some ti) (hel : ti.tk = .slice el) (hTe : tiOf P el = some te) {l c : Operand} {lv cv : AV}
    (hl : Rep g.H g.β lv (a.eval l)) (hc : Rep g.H g.β cv (a.eval c)) (ho : o.op = .makeSlice t l c) : OutOK P o a w g (amakeSlice te el lv cv) := by
  obtain ⟨info, d, z, hi, hu, hz, htk, hsz, hby, hag, hzero, hone, hfl, hes, hea⟩ := tiOf_spec hT
  obtain ⟨info', d', z', hi', hu', hz', htk', hsz', hby', hag', hzero', hone', hfl', hes', hea'⟩ := tiOf_spec hTe
  have hd := tk_slice htk hel
  subst hd
  unfold amakeSlice
  split
  · rename_i k m k' n
    split
    · trivial
    · rename_i h00
      simp only [not_or, Decidable.not_not] at h00
      rintro ⟨rfl, h0, h1, h2⟩
      have hrun := run_make w t el info' z' hu hi' hz' k k' m m h0 (Int.le_refl _) (by rw [← hby']; exact h1) h2
      have hzs : z'.cells.size = te.size := by rw [← h00.2, hzero']; simp
      have hcellz : ∀ i j v, i < m.toNat → j < te.size → te.zero[j]? = some v → (madeCells z'.cells (m.toNat * info'.size)).getD (i * te.size + j) undef = v := by
        intro i j v hi hj hv
        have hlt : i * te.size + j < m.toNat * info'.size := by
          rw [← hsz']
          have h4 : (i + 1) * te.size ≤ m.toNat * te.size := Nat.mul_le_mul_right _ (by omega)
          rw [Nat.add_mul] at h4
          omega
        have hm : (i * te.size + j) % z'.cells.size = j := by rw [hzs, Nat.add_comm, Nat.mul_comm, Nat.add_mul_mod_self_left, Nat.mod_eq_of_lt hj]
        rw [hzero', Array.getElem?_toList] at hv
        obtain ⟨hjl, hjv⟩ := Array.getElem?_eq_some_iff.1 hv
        simp only [madeCells, Array.getD_eq_getD_getElem?, Array.getElem?_map]
        rw [Array.getElem?_range, if_pos hlt]
        simp only [Option.map_some, Option.getD_some, hm]
        rw [getElem!_pos z'.cells j hjl, hjv]
      refine ⟨madeCells z'.cells (m.toNat * info'.size), ?_, by simp [madeCells, hsz'], by unfold maxLen; omega, fun i _ => by simp [h00.2], fun i j hi hj => ?_, fun i j x hi hx => ?_⟩
      · simp [execOp, ho, hl.int_inv, hc.int_inv, hrun]
      · obtain ⟨v, hv⟩ : ∃ v, te.zero[j]? = some v := ⟨_, List.getElem?_eq_getElem (by rw [h00.2]; exact hj)⟩
        rw [hcellz i j v hi hj hv]; exact hone' v (List.mem_of_getElem? hv)
      · simp only [List.getElem?_map, Option.map_eq_some_iff] at hx
        obtain ⟨v, hv, rfl⟩ := hx
        have hj : j < te.size := by rw [← h00.2]; exact (List.getElem?_eq_some_iff.1 hv).1
        have this := hcellz i j v hi hj hv
        rw [this]
        exact .v (hone' v (List.mem_of_getElem? hv))
  · trivial

end
end Go.Jo
