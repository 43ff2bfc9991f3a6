/- What writes: a store into a box of one's own, an append to a row of one's own. Over any program. -/
import Derived.Test.YtcmlhhjnbopbnaaJoJ8m
namespace Go.Jo
open Go.RowKit
set_option autoImplicit false
section
variable {P : Program} {c : Cfg}

theorem Act.put_none (a : Act) (v : Value) : a.put none v = a := rfl

theorem putS_none (σ : List AV) (x : AV) : putS σ none x = σ := rfl

theorem Dfr.set {E : Ctx} {h : List HObj} {β : Bl} {ds : List Deferred} (k : Dfr E h β ds) {b : Nat} {o o' : HObj} (ho : h[b]? = some o) (hne : o ≠ .df) : Dfr E (h.set b o') β ds :=
  k.mono (fun i hi => by
    by_cases e : i = b
    · subst e; rw [ho] at hi; cases hi; exact absurd rfl hne
    · rw [List.getElem?_set_ne (fun e' => e e'.symm)]; exact hi) (fun _ _ h => h)

theorem wr_get : ∀ (xs : List AV) (cs : List AV) (off i : Nat), (wr cs off xs)[i]? = if off ≤ i ∧ i < off + xs.length ∧ i < cs.length then xs[i - off]? else cs[i]?
  | [], cs, off, i => by simp [wr]; omega
  | x :: xs, cs, off, i => by
    rw [wr, wr_get xs]
    simp only [List.length_set, List.length_cons]
    by_cases h1 : off + 1 ≤ i ∧ i < off + 1 + xs.length ∧ i < cs.length
    · rw [if_pos h1, if_pos (by omega), show i - off = (i - (off + 1)) + 1 by omega]; simp
    · rw [if_neg h1, List.getElem?_set]
      by_cases h2 : off = i
      · subst h2
        by_cases h3 : off < cs.length
        · simp [h3]
        · simp [h3]
      · rw [if_neg h2, if_neg (by omega)]

theorem dwr_get : ∀ (xs : List D) (cs : List D) (off i : Nat), (dwr cs off xs)[i]? = if off ≤ i ∧ i < off + xs.length ∧ i < cs.length then xs[i - off]? else cs[i]?
  | [], cs, off, i => by simp [dwr]; omega
  | x :: xs, cs, off, i => by
    rw [dwr, dwr_get xs]
    simp only [List.length_set, List.length_cons]
    by_cases h1 : off + 1 ≤ i ∧ i < off + 1 + xs.length ∧ i < cs.length
    · rw [if_pos h1, if_pos (by omega), show i - off = (i - (off + 1)) + 1 by omega]; simp
    · rw [if_neg h1, List.getElem?_set]
      by_cases h2 : off = i
      · subst h2
        by_cases h3 : off < cs.length
        · simp [h3]
        · simp [h3]
      · rw [if_neg h2, if_neg (by omega)]

theorem dwr_length : ∀ (xs cs : List D) (off : Nat), (dwr cs off xs).length = cs.length
  | [], _, _ => rfl
  | x :: xs, cs, off => by simp [dwr, dwr_length xs]

/-- The cells behind a store. -/
theorem stored_get (cur : Array Value) (vs : List Value) (off i : Nat) (hle : off + vs.length ≤ cur.size) :
    (cur.toList.take off ++ vs ++ cur.toList.drop (off + vs.length)).toArray.getD i undef = if off ≤ i ∧ i < off + vs.length then vs.getD (i - off) undef else cur.getD i undef := by
  rw [Array.getD_eq_getD_getElem?, List.getElem?_toArray]
  by_cases h1 : i < off
  · rw [if_neg (by omega), List.append_assoc, List.getElem?_append_left (by simp; omega), List.getElem?_take_of_lt h1]
    simp [Array.getD_eq_getD_getElem?]
  · by_cases h2 : i < off + vs.length
    · rw [if_pos (by omega), List.append_assoc, List.getElem?_append_right (by simp; omega), List.length_take, List.getElem?_append_left (by simp; omega)]
      rw [show i - min off cur.toList.length = i - off by simp; omega]
      rw [List.getD_eq_getElem?_getD]
    · rw [if_neg (by omega), List.getElem?_append_right (by simp; omega), List.getElem?_drop]
      rw [show off + vs.length + (i - (cur.toList.take off ++ vs).length) = i by simp; omega]
      simp [Array.getD_eq_getD_getElem?]

theorem run_storeVar_at {t ty : TypeId} {i : TypeInfo} (hi : P.info? t = some i) (w : World) (g o : Nat) (cur : Array Value) (hg : w.heap[g]? = some (.cells cur ty (0, 0))) (v : Value) (hv : v.cells.size = i.size)
    (hle : o + v.cells.size ≤ cur.size) (h1 : ∀ u ∈ v.cells.toList, u.oneCell' = true) :
    (storeVar t ⟨g, o, none⟩ v).run P w = .ok () (w.setRow g (cur.toList.take o ++ v.cells.toList ++ cur.toList.drop (o + v.cells.toList.length)).toArray) := by
  have := run_storeCells_at P g o ty v.cells.toList 0 cur w hg (by simpa using hle) h1
  simp only [Nat.add_zero] at this
  simp [storeVar, run_sizeOf' hi, hv, this]

theorem astore_sound {rd : Option Nat} {E : Ctx} {st : St} {g : G} {a : Act} {w : World} {K : St → Prop} {o : Oper} {t : TypeId} {ti : TI} (hT : tiOf P t = some ti) {x y : Operand} (ho : o.op = .store t x y) (hd : o.dst = none) (hr : Rel E st g a w)
    (h : astore ti (ev st.σ x) (ev st.σ y) st K) {next : Act → World → Prop} {Q : Exit → Act → World → Prop} (hn : ∀ st' g' a' w', K st' → Rel E st' g' a' w' → next a' w') : Oper.wpr rd P o a w next Q := by
  obtain ⟨info, d, z, hi, hu, hz, htk, hsz, hby, hag, hzero, hone, hfl, hes, hea⟩ := tiOf_spec hT
  have hx : Rep g.H g.β (ev st.σ x) (a.eval x) := ev_rep (fun t _ => hr.sl.looks t)
  have hy : Rep g.H g.β (ev st.σ y) (a.eval y) := ev_rep (fun t _ => hr.sl.looks t)
  have hrun : ∀ {ad : Addr} {w' : World}, a.eval x = .pointer (some ad) → (storeVar t ad (a.eval y)).run P w = .ok () w' → next a w' → Oper.wpr rd P o a w next Q := by
    intro ad w' he hs hnx
    have : (execOp a.eval o).run P w = .ok .skip w' := by simp [execOp, ho, he, Instr.storeAt, Instr.sureAddr, hs]
    exact wpr_skip (fun c e => by rw [ho] at e; cases e) this (by rw [hd]; exact hnx)
  unfold astore at h
  split at h
  · rename_i xs hxs
    obtain ⟨c1, c2⟩ := AV.cells_rep hy hxs
    split at h
    · rename_i b off hav
      split at h
      · rename_i cs bt hb
        obtain ⟨⟨k1, k2, k3⟩, hK⟩ := h
        rw [hav] at hx
        generalize hv : a.eval x = v at hx
        cases hx with
        | bp hβ =>
        rename_i blk cc
        obtain ⟨cur, o1, o2, o3⟩ := (hr.wd.obj b _ blk cc hb hβ).1
        have h1 : ∀ u ∈ (a.eval y).cells.toList, u.oneCell' = true := by
          intro u hu
          obtain ⟨i, hi', rfl⟩ := List.getElem_of_mem hu
          have hix : i < xs.length := by rw [← c1]; simpa using hi'
          have := c2 i xs[i] (List.getElem?_eq_getElem hix)
          rw [Array.getD_eq_getD_getElem?] at this
          simp only [Array.length_toList] at hi'
          rw [Array.getElem?_eq_getElem hi'] at this
          exact AV.one_rep this ((List.all_eq_true.1 k1) _ (List.getElem_mem hix))
        refine hrun hv (run_storeVar_at hi w blk off cur o1 (a.eval y) (by rw [c1, k2, hsz]) (by rw [c1, o2]; exact k3) h1) ?_
        refine hn _ g a _ hK ⟨hr.sl, hr.wd.set hb hβ rfl (fun k hk => setRow_other w blk k _ hk) (setRow_size _ _ _) rfl rfl rfl ?_ rfl (fun e => by cases e), hr.df.set hb (fun e => by cases e)⟩
        refine ⟨_, setRow_heap w blk cur _ bt _ o1, by simp [wr_length, o2]; omega, fun i x' hx' => ?_⟩
        rw [stored_get _ _ _ _ (by simp [c1, o2]; omega)]
        rw [wr_get] at hx'
        simp only [Array.length_toList, c1]
        by_cases hcond : off ≤ i ∧ i < off + xs.length ∧ i < cs.length
        · rw [if_pos hcond] at hx'
          rw [if_pos ⟨hcond.1, hcond.2.1⟩]
          have := c2 _ _ hx'
          rwa [Array.getD_eq_getD_getElem?, ← Array.getElem?_toList, ← List.getD_eq_getElem?_getD] at this
        · rw [if_neg hcond] at hx'
          rw [if_neg (by have := (List.getElem?_eq_some_iff.1 hx').1; omega)]
          exact o3 i x' hx'
      · cases h
    · rename_i b k i off hav
      split at h
      · rename_i k' n f bt ds hb hds
        obtain ⟨⟨rfl, k1, k2, k4, k3⟩, hK⟩ := h
        rw [hav] at hx
        generalize hv : a.eval x = v at hx
        cases hx with
        | ep hβ =>
        rename_i blk cc
        obtain ⟨cur, o1, o2, o3, o4, o6, o5⟩ := (hr.wd.obj b _ blk cc hb hβ).1
        have e0 : xs = ds.map .d := allD_spec hds
        subst e0
        have h1 : ∀ u ∈ (a.eval y).cells.toList, u.oneCell' = true := by
          intro u hu
          obtain ⟨i, hi', rfl⟩ := List.getElem_of_mem hu
          have hix : i < ds.length := by have := c1; simp at this hi'; omega
          have := c2 i (.d ds[i]) (by simp [hix])
          rw [Array.getD_eq_getD_getElem?] at this
          simp only [Array.length_toList] at hi'
          rw [Array.getElem?_eq_getElem hi'] at this
          have h9 := (List.all_eq_true.1 k1) _ (List.getElem_mem hix)
          exact this.data.one (fun cs e => by rw [e] at h9; cases h9) (fun cs e => by rw [e] at h9; cases h9)
        have c1' : (a.eval y).cells.size = ds.length := by simpa using c1
        have hroom : i * k + off + ds.length ≤ cur.size := by
          rw [o2]
          have h4 : (i + 1) * k ≤ cc * k := Nat.mul_le_mul_right _ (by omega)
          rw [Nat.add_mul] at h4
          omega
        refine hrun hv (run_storeVar_at hi w blk (i * k + off) cur o1 (a.eval y) (by rw [c1', k2, hsz]) (by rw [c1']; exact hroom) h1) ?_
        refine hn _ g a _ hK ⟨hr.sl, hr.wd.set hb hβ rfl (fun k hk => setRow_other w blk k _ hk) (setRow_size _ _ _) rfl rfl rfl ?_ rfl (fun e => by cases e), hr.df.set hb (fun e => by cases e)⟩
        have hget : ∀ q, ((cur.toList.take (i * k + off) ++ (a.eval y).cells.toList ++ cur.toList.drop (i * k + off + (a.eval y).cells.toList.length)).toArray).getD q undef =
            if i * k + off ≤ q ∧ q < i * k + off + ds.length then (a.eval y).cells.toList.getD (q - (i * k + off)) undef else cur.getD q undef := fun q => by
          rw [stored_get _ _ _ _ (by simp [c1']; omega)]
          simp only [Array.length_toList, c1']
        have split_ : ∀ {i' j : Nat}, i' < n → j < k → ((i * k + off ≤ i' * k + j ∧ i' * k + j < i * k + off + ds.length) ↔ (i' = i ∧ off ≤ j ∧ j < off + ds.length)) := by
          intro i' j hi' hj
          constructor
          · rintro ⟨q1, q2⟩
            have : i' = i := by
              rcases Nat.lt_trichotomy i' i with hlt | heq | hgt
              · have h4 : (i' + 1) * k ≤ i * k := Nat.mul_le_mul_right _ hlt
                rw [Nat.add_mul] at h4; omega
              · exact heq
              · have h4 : (i + 1) * k ≤ i' * k := Nat.mul_le_mul_right _ hgt
                rw [Nat.add_mul] at h4; omega
            subst this
            exact ⟨rfl, by omega, by omega⟩
          · rintro ⟨rfl, q1, q2⟩; omega
        refine ⟨_, setRow_heap w blk cur _ bt _ o1, ?_, o3, fun i' hi' => ?_, fun i' j hi' hj => ?_, fun i' j x' hi' hx' => ?_⟩
        · simp [c1']; omega
        · dsimp only
          split
          · rw [dwr_length]; exact o4 _ hi'
          · exact o4 _ hi'
        · rw [hget]
          split
          · rename_i hc
            have hjd := (split_ hi' hj).1 hc
            have hlt : i' * k + j - (i * k + off) < (a.eval y).cells.toList.length := by simp [c1']; omega
            rw [List.getD_eq_getElem?_getD, List.getElem?_eq_getElem hlt]
            exact h1 _ (List.getElem_mem hlt)
          · exact o6 _ _ hi' hj
        · rw [hget]
          dsimp only at hx'
          have hj : j < k := by
            have := (List.getElem?_eq_some_iff.1 hx').1
            split at this
            · rw [dwr_length, o4 _ hi'] at this; exact this
            · rw [o4 _ hi'] at this; exact this
          by_cases e : i' = i
          · subst e
            rw [if_pos rfl, dwr_get] at hx'
            by_cases hcond : off ≤ j ∧ j < off + ds.length ∧ j < (f i').length
            · rw [if_pos hcond] at hx'
              rw [if_pos ((split_ hi' hj).2 ⟨rfl, hcond.1, hcond.2.1⟩)]
              have := (c2 (j - off) (.d x') (by simp [hx'])).data
              rw [show i' * k + j - (i' * k + off) = j - off by omega]
              rwa [Array.getD_eq_getD_getElem?, ← Array.getElem?_toList, ← List.getD_eq_getElem?_getD] at this
            · rw [if_neg hcond] at hx'
              have hjl := (List.getElem?_eq_some_iff.1 hx').1
              rw [if_neg (fun hh => hcond ⟨((split_ hi' hj).1 hh).2.1, ((split_ hi' hj).1 hh).2.2, hjl⟩)]
              exact o5 _ _ x' hi' hx'
          · rw [if_neg e] at hx'
            rw [if_neg (fun hh => e ((split_ hi' hj).1 hh).1)]
            exact o5 _ _ x' hi' hx'
      · cases h
    · cases h
  · cases h
end
end Go.Jo
