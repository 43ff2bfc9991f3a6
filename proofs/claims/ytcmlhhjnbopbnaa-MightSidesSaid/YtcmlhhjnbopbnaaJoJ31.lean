/- Arguments that read as data: what the abstract values stand for. Over any program. -/
import Derived.Test.YtcmlhhjnbopbnaaJoJ30
import Derived.ProofKit
import Derived.OpenShut
import Derived.DataElems
namespace Go.Jo
open Go.RowKit
set_option autoImplicit false

def tile (P : Program) : List Field → Nat → Nat → Bool
  | [], o, n => o == n
  | f :: fs, o, n => f.offset == o && tile P fs (o + P.cellsOf f.type) n

/-- A list of types of plain data, closed. -/
def closedT (P : Program) (l : List TypeId) : Bool := l.all fun t =>
  match P.underlying t with
  | some .bool => P.cellsOf t == 1
  | some (.int _) => P.cellsOf t == 1
  | some .string => P.cellsOf t == 1
  | some (.slice e) => l.contains e && P.cellsOf t == 1
  | some (.struct fs) => fs.toList.all (fun f => l.contains f.type) && tile P fs.toList 0 (P.cellsOf t)
  | some (.array n e) => l.contains e && P.cellsOf t == n * P.cellsOf e
  | _ => false

def Cells (H : Mem) (xs : List D) (cs : List Value) : Prop := xs.length = cs.length ∧ ∀ i x, xs[i]? = some x → RepD H x (cs.getD i undef) ∧ (cs.getD i undef).oneCell' = true

theorem Cells.app {H : Mem} {xs ys : List D} {cs ds : List Value} (h : Cells H xs cs) (k : Cells H ys ds) : Cells H (xs ++ ys) (cs ++ ds) := by
  refine ⟨by simp [h.1, k.1], fun i x hx => ?_⟩
  by_cases e : i < xs.length
  · rw [List.getElem?_append_left e] at hx
    rw [List.getD_eq_getElem?_getD, List.getElem?_append_left (by rw [← h.1]; exact e), ← List.getD_eq_getElem?_getD]
    exact h.2 i x hx
  · rw [List.getElem?_append_right (by omega)] at hx
    rw [List.getD_eq_getElem?_getD, List.getElem?_append_right (by rw [← h.1]; omega), ← List.getD_eq_getElem?_getD, ← h.1]
    exact k.2 _ x hx

/-- What the data of a type look like. -/
def Sh (P : Program) : Nat → TypeId → List D → Prop
  | 0, _, _ => False
  | n + 1, t, xs =>
    match P.underlying t with
    | some .bool => ∃ b, xs = [dB b]
    | some (.int k) => ∃ z, xs = [dN k z] ∧ (Lit.int k z).wf = true
    | some .string => ∃ s, xs = [dS s]
    | some (.slice e) => ∃ m f, xs = [.sl (P.cellsOf e) m f] ∧ ∀ i, i < m → Sh P n e (f i)
    | some (.struct fs) => ∃ yss : List (List D), xs = yss.flatten ∧ yss.length = fs.toList.length ∧ ∀ (i : Nat) (f : Field) (ys : List D), fs.toList[i]? = some f → yss[i]? = some ys → Sh P n f.type ys
    | some (.array m e) => ∃ yss : List (List D), xs = yss.flatten ∧ yss.length = m ∧ ∀ ys ∈ yss, Sh P n e ys
    | _ => False

theorem mapM_at {α β : Type} {f : α → Option β} : ∀ {l : List α} {r : List β}, l.mapM f = some r → r.length = l.length ∧ ∀ (i : Nat) x, l[i]? = some x → ∃ y, r[i]? = some y ∧ f x = some y
  | [], r, h => by
    simp at h
    subst h
    exact ⟨rfl, fun i x h => by simp at h⟩
  | a :: l, r, h => by
    rw [List.mapM_cons] at h
    cases h1 : f a with
    | none => rw [h1] at h; cases h
    | some b =>
      rw [h1] at h
      cases h2 : l.mapM f with
      | none => rw [h2] at h; cases h
      | some bs =>
        rw [h2] at h
        cases h
        obtain ⟨k1, k2⟩ := mapM_at h2
        refine ⟨by simp [k1], fun i x hx => ?_⟩
        cases i with
        | zero => simp at hx; subst hx; exact ⟨b, rfl, h1⟩
        | succ i => exact k2 i x (by simpa using hx)

section
variable {P : Program} {W : World} {HH : Type} {enc : TypeId × Value → HH} {sp : Nat → Bool} {hd : Bool}

/-- Fields, one after the other. -/
theorem cells_fields {n : Nat} (l : List TypeId) (hS : ∀ t cs, l.contains t = true → ∀ x, DataW.trod enc P W 0 sp hd n t cs = some x → ∃ xs, Cells W.cell? xs cs ∧ Sh P n t xs ∧ cs.length = P.cellsOf t) {cs : List Value} :
    ∀ (fs : List Field) (o m : Nat), tile P fs o m = true → fs.all (fun f => l.contains f.type) = true → (∀ f ∈ fs, ∃ x, DataW.trod enc P W 0 sp hd n f.type ((cs.drop f.offset).take (P.cellsOf f.type)) = some x) →
      o ≤ m ∧ ∃ yss : List (List D), Cells W.cell? yss.flatten ((cs.drop o).take (m - o)) ∧ yss.length = fs.length ∧ ∀ (i : Nat) (f : Field) (ys : List D), fs[i]? = some f → yss[i]? = some ys → Sh P n f.type ys
  | [], o, m, ht, _, _ => by
    have : o = m := by simpa [tile] using ht
    subst this
    exact ⟨Nat.le_refl _, [], ⟨by simp, fun i x h => by simp at h⟩, rfl, fun i f ys h => by simp at h⟩
  | f :: fs, o, m, ht, hl, hx => by
    simp only [tile, Bool.and_eq_true, beq_iff_eq] at ht
    simp only [List.all_cons, Bool.and_eq_true] at hl
    obtain ⟨hm, yss, k1, k2, k3⟩ := cells_fields l hS fs _ m ht.2 hl.2 (fun g hg => hx g (List.mem_cons_of_mem _ hg))
    obtain ⟨x, hx0⟩ := hx f List.mem_cons_self
    obtain ⟨xs, q1, q2, q3⟩ := hS _ _ hl.1 x hx0
    refine ⟨by omega, xs :: yss, ?_, by simp [k2], ?_⟩
    · have e : (cs.drop o).take (m - o) = (cs.drop f.offset).take (P.cellsOf f.type) ++ (cs.drop (o + P.cellsOf f.type)).take (m - (o + P.cellsOf f.type)) := by
        rw [ht.1, ← List.drop_drop]
        have : m - o = P.cellsOf f.type + (m - (o + P.cellsOf f.type)) := by omega
        rw [this, List.take_add]
      rw [List.flatten_cons, e]
      exact q1.app k1
    · intro i g ys hg hy
      cases i with
      | zero => simp at hg hy; subst hg; subst hy; exact q2
      | succ i => exact k3 i g ys (by simpa using hg) (by simpa using hy)

theorem cells_array {n k : Nat} {e : TypeId} (hk : k = P.cellsOf e) (hS : ∀ cs x, DataW.trod enc P W 0 sp hd n e cs = some x → ∃ xs, Cells W.cell? xs cs ∧ Sh P n e xs ∧ cs.length = P.cellsOf e) {cs : List Value} :
    ∀ (m : Nat), (∀ i, i < m → ∃ x, DataW.trod enc P W 0 sp hd n e ((cs.drop (i * k)).take k) = some x) →
      ∃ yss : List (List D), Cells W.cell? yss.flatten (cs.take (m * k)) ∧ yss.length = m ∧ ∀ ys ∈ yss, Sh P n e ys
  | 0, _ => ⟨[], ⟨by simp, fun i x h => by simp at h⟩, rfl, fun ys h => by cases h⟩
  | m + 1, hx => by
    obtain ⟨yss, k1, k2, k3⟩ := cells_array hk hS m (fun i hi => hx i (by omega))
    obtain ⟨x, hx0⟩ := hx m (by omega)
    obtain ⟨xs, q1, q2, q3⟩ := hS _ x hx0
    refine ⟨yss ++ [xs], ?_, by simp [k2], fun ys hy => ?_⟩
    · rw [List.flatten_append, List.flatten_singleton, Nat.succ_mul, List.take_add]
      exact k1.app q1
    · rcases List.mem_append.1 hy with h | h
      · exact k3 ys h
      · rw [List.mem_singleton.1 h]; exact q2

theorem trod_sh (l : List TypeId) (hc : closedT P l = true) : ∀ (n : Nat) (t : TypeId) (cs : List Value), l.contains t = true → ∀ x, DataW.trod enc P W 0 sp hd n t cs = some x → ∃ xs, Cells W.cell? xs cs ∧ Sh P n t xs ∧ cs.length = P.cellsOf t := by
  intro n
  induction n with
  | zero => intro t cs _ x h; cases h
  | succ n ih =>
    intro t cs ht x h
    have hct := (List.all_eq_true.1 hc) t (by simpa using ht)
    cases hu : P.underlying t with
    | none => rw [hu] at hct; cases hct
    | some u =>
      rw [hu] at hct
      have h1 : ∀ {d : D} {v : Value} (_ : RepD W.cell? d v) (_ : v.oneCell' = true), Cells W.cell? [d] [v] := fun hd hv => ⟨rfl, fun i x hx => by
        cases i with
        | zero => simp at hx; subst hx; exact ⟨hd, hv⟩
        | succ i => simp at hx⟩
      cases u with
      | bool =>
        obtain ⟨b, h2, _⟩ := DataW.trod_bool hu h
        subst h2
        exact ⟨[dB b], h1 (.v rfl) rfl, by simp only [Sh, hu]; exact ⟨b, rfl⟩, by simpa using (beq_iff_eq.1 hct).symm⟩
      | int k =>
        obtain ⟨z, h2, _, hw⟩ := DataW.trod_int hu h
        subst h2
        exact ⟨[dN k z], h1 (.v rfl) rfl, by simp only [Sh, hu]; exact ⟨z, rfl, hw⟩, by simpa using (beq_iff_eq.1 hct).symm⟩
      | string =>
        obtain ⟨s, h2, _⟩ := DataW.trod_string hu h
        subst h2
        exact ⟨[dS s], h1 (.v rfl) rfl, by simp only [Sh, hu]; exact ⟨s, rfl⟩, by simpa using (beq_iff_eq.1 hct).symm⟩
      | slice e =>
        simp only [Bool.and_eq_true, beq_iff_eq] at hct
        rcases DataW.trod_slice hu h with ⟨h2, _⟩ | ⟨a, len, cap, elems, rest, n', e1, h2, _, hb, hle, hm, hel, hat, _, _⟩
        · subst h2
          refine ⟨[.sl (P.cellsOf e) 0 (fun _ => [])], h1 (.sl (fun _ _ => undef) (Nat.le_refl _) (Nat.zero_le _) (fun _ => rfl) (fun i hi => absurd hi (Nat.not_lt_zero _)) (fun i j hi => absurd hi (Nat.not_lt_zero _)) (fun i j hi => absurd hi (Nat.not_lt_zero _)) (fun i j x hi => absurd hi (Nat.not_lt_zero _))) rfl, ?_, by simpa using hct.2.symm⟩
          simp only [Sh, hu]
          exact ⟨0, _, rfl, fun i hi => absurd hi (Nat.not_lt_zero _)⟩
        · cases e1
          subst h2
          have key : ∀ i, i < len → ∃ (ci : List Value) (xs : List D), (∀ j, j < P.cellsOf e → W.cell? (a.add (i * P.cellsOf e + j)) = ci[j]?) ∧ ci.length = P.cellsOf e ∧ Cells W.cell? xs ci ∧ Sh P n e xs := fun i hi => by
            have h3 := hat i hi
            rw [List.getElem?_eq_getElem (by omega)] at h3
            rw [Option.bind_eq_some_iff] at h3
            obtain ⟨ci, h4, h5⟩ := h3
            obtain ⟨xs, q1, q2, q3⟩ := ih e ci hct.1 _ h5
            refine ⟨ci, xs, fun j hj => ?_, q3, q1, q2⟩
            unfold World.cells? at h4
            split at h4
            · obtain ⟨_, m2⟩ := mapM_at h4
              obtain ⟨y, y1, y2⟩ := m2 j j (by simp [hj])
              rw [y1, ← y2]
              rw [Addr.add_add]
            · cases h4
          obtain ⟨ci, hci⟩ : ∃ ci : Nat → List Value, ∀ i, i < len → ∃ (xs : List D), (∀ j, j < P.cellsOf e → W.cell? (a.add (i * P.cellsOf e + j)) = (ci i)[j]?) ∧ (ci i).length = P.cellsOf e ∧ Cells W.cell? xs (ci i) ∧ Sh P n e xs := by
            have : ∀ i, ∃ c : List Value, i < len → ∃ (xs : List D), (∀ j, j < P.cellsOf e → W.cell? (a.add (i * P.cellsOf e + j)) = c[j]?) ∧ c.length = P.cellsOf e ∧ Cells W.cell? xs c ∧ Sh P n e xs := fun i => by
              by_cases hi : i < len
              · obtain ⟨c, xs, q⟩ := key i hi; exact ⟨c, fun _ => ⟨xs, q⟩⟩
              · exact ⟨[], fun h => absurd h hi⟩
            exact ⟨fun i => Classical.choose (this i), fun i => Classical.choose_spec (this i)⟩
          obtain ⟨f, hf⟩ : ∃ f : Nat → List D, ∀ i, i < len → (∀ j, j < P.cellsOf e → W.cell? (a.add (i * P.cellsOf e + j)) = (ci i)[j]?) ∧ (ci i).length = P.cellsOf e ∧ Cells W.cell? (f i) (ci i) ∧ Sh P n e (f i) := by
            have : ∀ i, ∃ xs : List D, i < len → (∀ j, j < P.cellsOf e → W.cell? (a.add (i * P.cellsOf e + j)) = (ci i)[j]?) ∧ (ci i).length = P.cellsOf e ∧ Cells W.cell? xs (ci i) ∧ Sh P n e xs := fun i => by
              by_cases hi : i < len
              · obtain ⟨xs, q⟩ := hci i hi; exact ⟨xs, fun _ => q⟩
              · exact ⟨[], fun h => absurd h hi⟩
            exact ⟨fun i => Classical.choose (this i), fun i => Classical.choose_spec (this i)⟩
          refine ⟨[.sl (P.cellsOf e) len f], h1 (.sl (fun i j => (ci i).getD j undef) hle hm (fun h => by cases h) (fun i hi => ?_) (fun i j hi hj => ?_) (fun i j hi hj => ⟨a, rfl, ?_⟩) (fun i j x hi hx => ?_)) rfl, ?_, by simpa using hct.2.symm⟩
          · rw [(hf i hi).2.2.1.1, (hf i hi).2.1]
          · obtain ⟨_, q2, q3, _⟩ := hf i hi
            exact (q3.2 j _ (List.getElem?_eq_getElem (by rw [q3.1, q2]; exact hj))).2
          · obtain ⟨q1, q2, _, _⟩ := hf i hi
            rw [q1 j hj, List.getD_eq_getElem?_getD, List.getElem?_eq_getElem (by rw [q2]; exact hj)]
            rfl
          · exact ((hf i hi).2.2.1.2 j x hx).1
          · simp only [Sh, hu]
            exact ⟨len, f, rfl, fun i hi => (hf i hi).2.2.2⟩
      | struct fs =>
        simp only [Bool.and_eq_true] at hct
        obtain ⟨xs, n', e1, _, hl, hxl, hat⟩ := DataW.trod_struct hu h
        cases e1
        obtain ⟨_, yss, k1, k2, k3⟩ := cells_fields (W := W) l (fun t cs ht x hx => ih t cs ht x hx) (cs := cs) fs.toList 0 (P.cellsOf t) hct.2 hct.1 (fun f hf => by
          obtain ⟨i, hi, rfl⟩ := List.getElem_of_mem hf
          have hi' : i < fs.size := by simpa using hi
          have := hat i fs[i] (Array.getElem?_eq_getElem hi')
          rw [List.getElem?_eq_getElem (by omega)] at this
          exact ⟨_, by simpa using this⟩)
        refine ⟨yss.flatten, ?_, ?_, hl⟩
        · rw [List.drop_zero, Nat.sub_zero, ← hl, List.take_length] at k1
          exact k1
        · simp only [Sh, hu]
          exact ⟨yss, rfl, k2, k3⟩
      | array m e =>
        simp only [Bool.and_eq_true, beq_iff_eq] at hct
        obtain ⟨xs, n', e1, _, hl, hxl, hat⟩ := DataW.trod_array hu h
        cases e1
        obtain ⟨yss, k1, k2, k3⟩ := cells_array (W := W) (e := e) rfl (fun cs x hx => ih e cs hct.1 x hx) (cs := cs) m (fun i hi => by
          have := hat i hi
          rw [List.getElem?_eq_getElem (by omega)] at this
          exact ⟨_, this⟩)
        refine ⟨yss.flatten, ?_, ?_, hl⟩
        · rw [← hct.2, ← hl, List.take_length] at k1
          exact k1
        · simp only [Sh, hu]
          exact ⟨yss, rfl, k2, k3⟩
      | _ => cases hct
end
end Go.Jo
