/- '==' of structs and arrays whose leaves are plain. Over any program. -/
import Derived.Test.YtcmlhhjnbopbnaaJoJ20
import Derived.ChangeKeysEq
namespace Go.Jo
open Go.RowKit
set_option autoImplicit false

def likeT : TypeDesc → Value → Bool
  | .int k, .int k' _ => decide (k = k')
  | .bool, .bool _ => true
  | .string, .string _ => true
  | _, _ => false

def flatFs (P : Program) (F : TypeId → List Value → Bool) : List Field → Nat → List Value → Bool
  | [], _, zs => zs.isEmpty
  | f :: fs, n, zs => f.name != "_" && f.offset == n && szOf P f.type != 0 && decide (szOf P f.type ≤ zs.length) && F f.type (zs.take (szOf P f.type)) && flatFs P F fs (n + szOf P f.type) (zs.drop (szOf P f.type))

def flatIs (F : List Value → Bool) (s : Nat) : Nat → List Value → Bool
  | 0, zs => zs.isEmpty
  | k + 1, zs => decide (s ≤ zs.length) && F (zs.take s) && flatIs F s k (zs.drop s)

/-- The leaves of a type, one cell each, are of these kinds, in this order. -/
def flatT (P : Program) : Nat → TypeId → List Value → Bool
  | 0, _, _ => false
  | d + 1, t, zs =>
    match P.underlying t with
    | some (.struct fs) => !P.stoodInHeld t && flatFs P (flatT P d) fs.toList 0 zs
    | some (.array n e) => szOf P e != 0 && flatIs (flatT P d e) (szOf P e) n zs
    | some dd => match zs with | [z] => likeT dd z | _ => false
    | none => false

/-- A value out of its cells. -/
def mkV (P : Program) (t : TypeId) (vs : List Value) : Value := if agOf P t = true then .agg vs.toArray else vs.headD undef

section
variable {P : Program}

theorem eqV_cons {x y : Value} {xs ys : List Value} {c : Bool} (h : eqV (x :: xs) (y :: ys) = some c) : ∃ a b, eqV [x] [y] = some a ∧ eqV xs ys = some b ∧ c = (a && b) := by
  unfold eqV at h
  split at h
  · rename_i e1 e2; cases e1
  · rename_i k a xs' k' b ys' e1 e2
    cases e1; cases e2
    split at h
    · rename_i hk
      rw [Option.map_eq_some_iff] at h
      obtain ⟨r, hr, rfl⟩ := h
      exact ⟨a == b, r, by simp [eqV, hk], hr, rfl⟩
    · cases h
  · rename_i a xs' b ys' e1 e2
    cases e1; cases e2
    rw [Option.map_eq_some_iff] at h
    obtain ⟨r, hr, rfl⟩ := h
    exact ⟨a == b, r, by simp [eqV], hr, rfl⟩
  · rename_i a xs' b ys' e1 e2
    cases e1; cases e2
    rw [Option.map_eq_some_iff] at h
    obtain ⟨r, hr, rfl⟩ := h
    exact ⟨a == b, r, by simp [eqV], hr, rfl⟩
  · cases h

theorem eqV_cons' {x y : Value} {xs ys : List Value} {a b : Bool} (h1 : eqV [x] [y] = some a) (h2 : eqV xs ys = some b) : eqV (x :: xs) (y :: ys) = some (a && b) := by
  unfold eqV at h1
  split at h1
  · rename_i e1 e2; cases e1
  · rename_i k p xs' k' q ys' e1 e2
    cases e1; cases e2
    split at h1
    · rename_i hk
      rw [Option.map_eq_some_iff] at h1
      obtain ⟨r, hr, rfl⟩ := h1
      simp only [eqV, Option.some.injEq] at hr; subst hr
      simp [eqV, hk, h2]
    · cases h1
  · rename_i p xs' q ys' e1 e2
    cases e1; cases e2
    rw [Option.map_eq_some_iff] at h1
    obtain ⟨r, hr, rfl⟩ := h1
    simp only [eqV, Option.some.injEq] at hr; subst hr
    simp [eqV, h2]
  · rename_i p xs' q ys' e1 e2
    cases e1; cases e2
    rw [Option.map_eq_some_iff] at h1
    obtain ⟨r, hr, rfl⟩ := h1
    simp only [eqV, Option.some.injEq] at hr; subst hr
    simp [eqV, h2]
  · cases h1

theorem eqV_split : ∀ {n : Nat} {xs ys : List Value} {c : Bool}, eqV xs ys = some c → n ≤ xs.length → ∃ a b, eqV (xs.take n) (ys.take n) = some a ∧ eqV (xs.drop n) (ys.drop n) = some b ∧ c = (a && b)
  | 0, xs, ys, c, h, _ => ⟨true, c, by simp [eqV], by simpa using h, by simp⟩
  | n + 1, [], ys, c, h, hn => by simp at hn
  | n + 1, x :: xs, [], c, h, hn => by cases x <;> simp [eqV] at h
  | n + 1, x :: xs, y :: ys, c, h, hn => by
    obtain ⟨a, b, h1, h2, rfl⟩ := eqV_cons h
    obtain ⟨a', b', h3, h4, rfl⟩ := eqV_split (n := n) h2 (by simpa using hn)
    refine ⟨a && a', b', ?_, by simpa using h4, by rw [Bool.and_assoc]⟩
    rw [List.take_succ_cons, List.take_succ_cons]
    exact eqV_cons' h1 h3

theorem eqV_len : ∀ {xs ys : List Value} {c : Bool}, eqV xs ys = some c → xs.length = ys.length
  | [], [], _, _ => rfl
  | [], y :: ys, _, h => by simp [eqV] at h
  | x :: xs, [], _, h => by cases x <;> simp [eqV] at h
  | x :: xs, y :: ys, c, h => by
    obtain ⟨a, b, h1, h2, rfl⟩ := eqV_cons h
    simp [eqV_len h2]

theorem likeV_split : ∀ {n : Nat} {zs xs : List Value}, likeV zs xs = true → likeV (zs.take n) (xs.take n) = true ∧ likeV (zs.drop n) (xs.drop n) = true
  | 0, zs, xs, h => ⟨by simp [likeV], by simpa using h⟩
  | n + 1, [], [], h => ⟨by simp [likeV], by simp [likeV]⟩
  | n + 1, [], x :: xs, h => by simp [likeV] at h
  | n + 1, z :: zs, [], h => by cases z <;> simp [likeV] at h
  | n + 1, z :: zs, x :: xs, h => by
    obtain ⟨h1, h2⟩ := likeV_cons h
    obtain ⟨h3, h4⟩ := likeV_split (n := n) h2
    refine ⟨?_, by simpa using h4⟩
    rw [List.take_succ_cons, List.take_succ_cons]
    exact likeV_cons' h1 h3

theorem run_part_mkV {t : TypeId} (h0 : szOf P t ≠ 0) (w : World) (xs : Array Value) (off : Nat) (hl : off + szOf P t ≤ xs.size) : (part t xs off).run P w = .ok (mkV P t ((xs.toList.drop off).take (szOf P t))) w := by
  obtain ⟨i, d, hi, hu, hs⟩ := szOf_info h0
  unfold mkV
  have hag : agOf P t = isAg d := by simp [agOf, hu]
  cases ha : isAg d with
  | true =>
    rw [hag, ha, if_pos rfl, run_part_ag hu hi ha]
    congr 2
    apply Array.ext'
    simp [hs, List.drop_take]
  | false =>
    rw [hag, ha, if_neg (by simp)]
    have hlt : off < xs.size := by omega
    rw [run_part_one hu ha w (v := xs[off]) (by simp [hlt])]
    congr 1
    have : (xs.toList.drop off).take (szOf P t) = xs[off] :: ((xs.toList.drop (off + 1)).take (szOf P t - 1)) := by
      obtain ⟨n, hn⟩ : ∃ n, szOf P t = n + 1 := ⟨szOf P t - 1, by omega⟩
      rw [hn, List.drop_eq_getElem_cons (by simpa using hlt)]
      simp
    rw [this]; rfl

theorem run_eq_plain {dd : TypeDesc} {t : TypeId} (hu : P.underlying t = some dd) {z : Value} (hz : likeT dd z = true) {vs us : List Value} {c : Bool} (hv : likeV [z] vs = true) (he : eqV vs us = some c) (d : Nat) (w : World) :
    (Op.equalIn (d + 1) t (mkV P t vs) (mkV P t us)).run P w = .ok c w := by
  have hpl : isAg dd = false := by cases dd <;> cases z <;> simp_all [likeT, isAg]
  have hag : agOf P t = false := by simp [agOf, hu, hpl]
  unfold mkV
  rw [hag, if_neg (by simp), if_neg (by simp)]
  have l1 := likeV_len hv
  have l2 := eqV_len he
  match vs, us, l1, l2 with
  | [x], [y], _, _ =>
    show (Op.equalIn (d + 1) t x y).run P w = _
    cases z with
    | int k zz =>
      cases dd <;> simp only [likeT] at hz <;> try (cases hz; done)
      cases x <;> simp only [likeV] at hv <;> try (cases hv; done)
      cases y <;> simp only [eqV] at he <;> try (cases he; done)
      split at he
      · rename_i hk
        simp only [Option.map_some, Bool.and_true, Option.some.injEq] at he
        subst hk; subst he
        exact run_equalIn_int w d t _ _ _ _ hu
      · cases he
    | bool zz =>
      cases dd <;> simp only [likeT] at hz <;> try (cases hz; done)
      cases x <;> simp only [likeV] at hv <;> try (cases hv; done)
      cases y <;> simp only [eqV] at he <;> try (cases he; done)
      simp only [Option.map_some, Bool.and_true, Option.some.injEq] at he
      subst he
      exact run_equalIn_bool' w d t _ _ hu
    | string zz =>
      cases dd <;> simp only [likeT] at hz <;> try (cases hz; done)
      cases x <;> simp only [likeV] at hv <;> try (cases hv; done)
      cases y <;> simp only [eqV] at he <;> try (cases he; done)
      simp only [Option.map_some, Bool.and_true, Option.some.injEq] at he
      subst he
      have := run_equalIn_string (P := P) w d t
      first
        | exact this _ _ hu
        | (rw [this _ _ hu]; rw [beq_toListBytes])
    | _ => cases dd <;> simp [likeT] at hz
  | [], _, l1, _ => simp at l1
  | _ :: _ :: _, _, l1, _ => simp at l1
  | [_], [], _, l2 => simp at l2
  | [_], _ :: _ :: _, _, l2 => simp at l2

theorem flat_len {d : Nat} {t : TypeId} (h0 : szOf P t ≠ 0) {zs : List Value} (hag : agOf P t = false) (h : flatT P d t zs = true) : zs.length = 1 := by
  cases d with
  | zero => cases h
  | succ d =>
    unfold flatT at h
    unfold agOf at hag
    split at h
    · rename_i fs hu; simp [hu, isAg] at hag
    · rename_i n e hu; simp [hu, isAg] at hag
    · split at h
      · rfl
      · cases h
    · cases h

theorem flat_run (w : World) : ∀ (d : Nat) (t : TypeId) (zs vs us : List Value) (c : Bool) (D : Nat), d < D → flatT P d t zs = true → likeV zs vs = true → eqV vs us = some c → (Op.equalIn D t (mkV P t vs) (mkV P t us)).run P w = .ok c w
  | 0, t, zs, vs, us, c, D, hD, hf, hl, he => by cases hf
  | d + 1, t, zs, vs, us, c, D, hD, hf, hl, he => by
    obtain ⟨D, rfl⟩ : ∃ D', D = D' + 1 := ⟨D - 1, by omega⟩
    unfold flatT at hf
    split at hf
    · rename_i fs hu
      simp only [Bool.and_eq_true, Bool.not_eq_true'] at hf
      have hag : agOf P t = true := by simp [agOf, hu, isAg]
      have hfo : P.fieldsOf t = fs := by simp [Program.fieldsOf, hu]
      unfold mkV
      rw [hag, if_pos rfl, if_pos rfl, run_equalIn_struct w D t _ _ (by rw [hfo]; exact hu) hf.1, hfo]
      have key : ∀ (fs : List Field) (n : Nat) (zs vs us : List Value) (c : Bool), flatFs P (flatT P d) fs n zs = true → likeV zs vs = true → eqV vs us = some c →
          ∀ (X Y : Array Value), X.toList.drop n = vs → Y.toList.drop n = us → (Op.eqFields D X Y fs).run P w = .ok c w := by
        intro fs
        induction fs with
        | nil =>
          intro n zs vs us c hf hl he X Y hX hY
          simp only [flatFs, List.isEmpty_iff] at hf
          subst hf
          have : vs = [] := by have := likeV_len hl; exact List.eq_nil_of_length_eq_zero this.symm
          subst this
          have : us = [] := by have := eqV_len he; exact List.eq_nil_of_length_eq_zero this.symm
          subst this
          simp only [eqV, Option.some.injEq] at he
          subst he
          simp [Op.eqFields]
        | cons f fs ih =>
          intro n zs vs us c hf hl he X Y hX hY
          simp only [flatFs, Bool.and_eq_true, bne_iff_ne, beq_iff_eq, decide_eq_true_eq] at hf
          obtain ⟨⟨⟨⟨⟨h1, h2⟩, h3⟩, h4⟩, h5⟩, h6⟩ := hf
          have hlv := likeV_len hl
          have hlu := eqV_len he
          obtain ⟨a, b, e1, e2, rfl⟩ := eqV_split (n := szOf P f.type) he (by omega)
          obtain ⟨l1, l2⟩ := likeV_split (n := szOf P f.type) hl
          have hXl : X.size - n = vs.length := by rw [← hX]; simp
          have hYl : Y.size - n = us.length := by rw [← hY]; simp
          have p1 := run_part_mkV h3 w X f.offset (by omega)
          have p2 := run_part_mkV h3 w Y f.offset (by omega)
          rw [h2, hX] at p1
          rw [h2, hY] at p2
          have r := flat_run w d f.type _ _ _ a D (by omega) h5 l1 e1
          simp only [Op.eqFields, if_pos h1, Sem.run_bind, h2, p1, p2, r, Result.andThen_ok]
          cases a with
          | true =>
            simp only [Bool.not_true, Bool.false_eq_true, if_false, Bool.true_and]
            exact ih (n + szOf P f.type) _ _ _ b h6 l2 e2 X Y (by rw [← List.drop_drop, hX]) (by rw [← List.drop_drop, hY])
          | false => simp
      exact key fs.toList 0 zs vs us c hf.2 hl he _ _ (by simp) (by simp)
    · rename_i n e hu
      simp only [Bool.and_eq_true, bne_iff_ne] at hf
      obtain ⟨h0, hf⟩ := hf
      have hag : agOf P t = true := by simp [agOf, hu, isAg]
      obtain ⟨i, dd, hi, hu', hs⟩ := szOf_info h0
      unfold mkV
      rw [hag, if_pos rfl, if_pos rfl, run_equalIn_array w D _ _ hu hi]
      have hce : P.cellsOf e = szOf P e := by simp [Program.cellsOf, hi, hs]
      rw [hce]
      have key : ∀ (n k : Nat) (zs vs us : List Value) (c : Bool), flatIs (flatT P d e) (szOf P e) n zs = true → likeV zs vs = true → eqV vs us = some c →
          ∀ (X Y : Array Value), X.toList.drop (k * szOf P e) = vs → Y.toList.drop (k * szOf P e) = us → (Op.eqItems D e (szOf P e) X Y (List.range' k n)).run P w = .ok c w := by
        intro n
        induction n with
        | zero =>
          intro k zs vs us c hf hl he X Y hX hY
          simp only [flatIs, List.isEmpty_iff] at hf
          subst hf
          have : vs = [] := by have := likeV_len hl; exact List.eq_nil_of_length_eq_zero this.symm
          subst this
          have : us = [] := by have := eqV_len he; exact List.eq_nil_of_length_eq_zero this.symm
          subst this
          simp only [eqV, Option.some.injEq] at he
          subst he
          simp [Op.eqItems]
        | succ n ih =>
          intro k zs vs us c hf hl he X Y hX hY
          simp only [flatIs, Bool.and_eq_true, decide_eq_true_eq] at hf
          obtain ⟨⟨h4, h5⟩, h6⟩ := hf
          have hlv := likeV_len hl
          have hlu := eqV_len he
          obtain ⟨a, b, e1, e2, rfl⟩ := eqV_split (n := szOf P e) he (by omega)
          obtain ⟨l1, l2⟩ := likeV_split (n := szOf P e) hl
          have hXl : X.size - k * szOf P e = vs.length := by rw [← hX]; simp
          have hYl : Y.size - k * szOf P e = us.length := by rw [← hY]; simp
          have p1 := run_part_mkV h0 w X (k * szOf P e) (by omega)
          have p2 := run_part_mkV h0 w Y (k * szOf P e) (by omega)
          rw [hX] at p1
          rw [hY] at p2
          have r := flat_run w d e _ _ _ a D (by omega) h5 l1 e1
          rw [List.range'_succ]
          simp only [Op.eqItems, Sem.run_bind, p1, p2, r, Result.andThen_ok]
          cases a with
          | true =>
            simp only [Bool.not_true, Bool.false_eq_true, if_false, Bool.true_and]
            have hk : (k + 1) * szOf P e = k * szOf P e + szOf P e := by rw [Nat.add_mul, Nat.one_mul]
            exact ih (k + 1) _ _ _ b h6 l2 e2 X Y (by rw [hk, ← List.drop_drop, hX]) (by rw [hk, ← List.drop_drop, hY])
          | false => simp
      have := key n 0 zs vs us c hf hl he vs.toArray us.toArray (by simp) (by simp)
      rwa [List.range_eq_range']
    · rename_i dd hn1 hn2 hu
      split at hf
      · exact run_eq_plain hu hf hl he D w
      · cases hf
    · cases hf

theorem run_checkKey_struct (e : Bool) (n : Nat) {t : TypeId} {fs : Array Field} (hu : P.underlying t = some (.struct fs)) (xs : Array Value) (w : World)
    (h : ∀ f ∈ fs.toList, f.name ≠ "_" → ∃ v, (part f.type xs f.offset).run P w = .ok v w ∧ (Instr.checkKey e n f.type v).run P w = .ok () w) : (Instr.checkKey e (n + 1) t (.agg xs)).run P w = .ok () w := by
  simp only [Instr.checkKey, Sem.run_bind, run_underlying hu, Result.andThen_ok]
  rw [← Array.forIn_toList]
  generalize fs.toList = l at h
  clear hu
  induction l with
  | nil => rfl
  | cons f l ih =>
    simp only [List.forIn_cons, Sem.run_bind]
    have ih' := ih (fun g hg => h g (by simp [hg]))
    by_cases hn : f.name ≠ "_"
    · obtain ⟨v, h1, h2⟩ := h f (by simp) hn
      simp only [if_pos hn, Sem.run_bind, h1, Result.andThen_ok, h2, Sem.run_pure]
      exact ih'
    · simp only [if_neg hn, Sem.run_pure, Result.andThen_ok]
      exact ih'

theorem run_checkKey_array (e : Bool) (n : Nat) {t el : TypeId} {len : Nat} (hu : P.underlying t = some (.array len el)) {info : TypeInfo} (hi : P.info? el = some info) (xs : Array Value) (w : World)
    (h : ∀ i, i < len → ∃ v, (part el xs (i * info.size)).run P w = .ok v w ∧ (Instr.checkKey e n el v).run P w = .ok () w) : (Instr.checkKey e (n + 1) t (.agg xs)).run P w = .ok () w := by
  simp only [Instr.checkKey, Sem.run_bind, run_underlying hu, Result.andThen_ok]
  simp only [Std.Legacy.Range.forIn_eq_forIn_range', Std.Legacy.Range.size, Nat.sub_zero, Nat.add_one_sub_one, Nat.div_one]
  have key : ∀ (l : List Nat), (∀ i ∈ l, i < len) → (forIn l PUnit.unit fun i _ => do Instr.checkKey e n el (← part el xs (i * (← sizeOf el))); pure (ForInStep.yield PUnit.unit)).run P w = .ok PUnit.unit w := by
    intro l hl
    induction l with
    | nil => rfl
    | cons i l ih =>
      obtain ⟨v, h1, h2⟩ := h i (hl i (by simp))
      simp only [List.forIn_cons, Sem.run_bind, run_sizeOf' hi, Result.andThen_ok, h1, h2, Sem.run_pure]
      exact ih (fun j hj => hl j (by simp [hj]))
  have := key (List.range' 0 len) (fun i hi => by simp at hi; omega)
  simp only [bind_pure_comp] at this ⊢
  simp [this]

theorem flat_chk (w : World) (b : Bool) : ∀ (d : Nat) (t : TypeId) (zs vs : List Value) (D : Nat), d < D → flatT P d t zs = true → likeV zs vs = true → (Instr.checkKey b D t (mkV P t vs)).run P w = .ok () w
  | 0, t, zs, vs, D, hD, hf, hl => by cases hf
  | d + 1, t, zs, vs, D, hD, hf, hl => by
    obtain ⟨D, rfl⟩ : ∃ D', D = D' + 1 := ⟨D - 1, by omega⟩
    unfold flatT at hf
    split at hf
    · rename_i fs hu
      simp only [Bool.and_eq_true, Bool.not_eq_true'] at hf
      have hag : agOf P t = true := by simp [agOf, hu, isAg]
      unfold mkV
      rw [hag, if_pos rfl]
      refine run_checkKey_struct b D hu _ w ?_
      have key : ∀ (fs : List Field) (n : Nat) (zs vs : List Value), flatFs P (flatT P d) fs n zs = true → likeV zs vs = true →
          ∀ (X : Array Value), X.toList.drop n = vs → ∀ f ∈ fs, f.name ≠ "_" → ∃ v, (part f.type X f.offset).run P w = .ok v w ∧ (Instr.checkKey b D f.type v).run P w = .ok () w := by
        intro fs
        induction fs with
        | nil => intro n zs vs _ _ X _ f hf; cases hf
        | cons f fs ih =>
          intro n zs vs hf hl X hX g hg hne
          simp only [flatFs, Bool.and_eq_true, bne_iff_ne, beq_iff_eq, decide_eq_true_eq] at hf
          obtain ⟨⟨⟨⟨⟨h1, h2⟩, h3⟩, h4⟩, h5⟩, h6⟩ := hf
          have hlv := likeV_len hl
          obtain ⟨l1, l2⟩ := likeV_split (n := szOf P f.type) hl
          have hXl : X.size - n = vs.length := by rw [← hX]; simp
          rcases List.mem_cons.1 hg with rfl | hg
          · have p1 := run_part_mkV h3 w X g.offset (by omega)
            rw [h2, hX] at p1
            rw [h2]
            exact ⟨_, p1, flat_chk w b d g.type _ _ D (by omega) h5 l1⟩
          · exact ih (n + szOf P f.type) _ _ h6 l2 X (by rw [← List.drop_drop, hX]) g hg hne
      exact key fs.toList 0 zs vs hf.2 hl _ (by simp)
    · rename_i n e hu
      simp only [Bool.and_eq_true, bne_iff_ne] at hf
      obtain ⟨h0, hf⟩ := hf
      have hag : agOf P t = true := by simp [agOf, hu, isAg]
      obtain ⟨i, dd, hi, hu', hs⟩ := szOf_info h0
      unfold mkV
      rw [hag, if_pos rfl]
      refine run_checkKey_array b D hu hi _ w ?_
      rw [hs]
      have key : ∀ (n k : Nat) (zs vs : List Value), flatIs (flatT P d e) (szOf P e) n zs = true → likeV zs vs = true →
          ∀ (X : Array Value), X.toList.drop (k * szOf P e) = vs → ∀ j, j < n → ∃ v, (part e X ((k + j) * szOf P e)).run P w = .ok v w ∧ (Instr.checkKey b D e v).run P w = .ok () w := by
        intro n
        induction n with
        | zero => intro k zs vs _ _ X _ j hj; omega
        | succ n ih =>
          intro k zs vs hf hl X hX j hj
          simp only [flatIs, Bool.and_eq_true, decide_eq_true_eq] at hf
          obtain ⟨⟨h4, h5⟩, h6⟩ := hf
          have hlv := likeV_len hl
          obtain ⟨l1, l2⟩ := likeV_split (n := szOf P e) hl
          have hXl : X.size - k * szOf P e = vs.length := by rw [← hX]; simp
          cases j with
          | zero =>
            have p1 := run_part_mkV h0 w X (k * szOf P e) (by omega)
            rw [hX] at p1
            exact ⟨_, p1, flat_chk w b d e _ _ D (by omega) h5 l1⟩
          | succ j =>
            have hk : (k + 1) * szOf P e = k * szOf P e + szOf P e := by rw [Nat.add_mul, Nat.one_mul]
            have := ih (k + 1) _ _ h6 l2 X (by rw [hk, ← List.drop_drop, hX]) j (by omega)
            rwa [show k + 1 + j = k + (j + 1) by omega] at this
      intro j hj
      have := key n 0 zs vs hf hl vs.toArray (by simp) j hj
      rwa [Nat.zero_add] at this
    · rename_i dd hn1 hn2 hu
      split at hf
      · rename_i z
        have hag : agOf P t = false := by
          simp only [agOf, hu, Option.map_some, Option.getD_some]
          cases dd <;> first | rfl | exact absurd rfl (hn1 _) | exact absurd rfl (hn2 _ _) | skip
          all_goals (cases z <;> simp [likeT] at hf)
        have l1 := likeV_len hl
        match vs, l1 with
        | [x], _ =>
          have e : mkV P t [x] = x := by unfold mkV; rw [hag, if_neg (by simp)]; rfl
          rw [e]
          refine MapKept.run_checkKey hu ?_ b D
          cases dd <;> cases z <;> simp only [likeT, Bool.false_eq_true, decide_eq_true_eq] at hf <;> cases x <;> simp only [likeV, Bool.false_eq_true, Bool.and_true, decide_eq_true_eq] at hl <;> simp [MapKept.IsKey]
          · rw [hf, hl]
      · cases hf
    · cases hf

theorem eqCells_V : ∀ {ds es : List D} {c : Bool}, eqCells ds es = some c → ∃ vs us, ds = vs.map .v ∧ es = us.map .v ∧ eqV vs us = some c
  | [], [], c, h => ⟨[], [], rfl, rfl, h⟩
  | [], _ :: _, _, h => by simp [eqCells] at h
  | x :: xs, [], _, h => by
    unfold eqCells at h
    split at h <;> simp_all
  | x :: xs, y :: ys, c, h => by
    unfold eqCells at h
    split at h
    · rename_i e1 e2; cases e1
    · rename_i k a xs' k' b ys' e1 e2
      cases e1; cases e2
      split at h
      · rename_i hk
        rw [Option.map_eq_some_iff] at h
        obtain ⟨r, hr, rfl⟩ := h
        obtain ⟨vs, us, h1, h2, h3⟩ := eqCells_V hr
        exact ⟨.int k a :: vs, .int k' b :: us, by simp [h1], by simp [h2], by simp [eqV, hk, h3]⟩
      · cases h
    · rename_i a xs' b ys' e1 e2
      cases e1; cases e2
      rw [Option.map_eq_some_iff] at h
      obtain ⟨r, hr, rfl⟩ := h
      obtain ⟨vs, us, h1, h2, h3⟩ := eqCells_V hr
      exact ⟨.bool a :: vs, .bool b :: us, by simp [h1], by simp [h2], by simp [eqV, h3]⟩
    · rename_i a xs' b ys' e1 e2
      cases e1; cases e2
      rw [Option.map_eq_some_iff] at h
      obtain ⟨r, hr, rfl⟩ := h
      obtain ⟨vs, us, h1, h2, h3⟩ := eqCells_V hr
      exact ⟨.string a :: vs, .string b :: us, by simp [h1], by simp [h2], by simp [eqV, h3]⟩
    · cases h

theorem likeZ_V : ∀ {zs vs : List Value}, likeZ zs (vs.map .v) = true → likeV zs vs = true
  | [], [], _ => rfl
  | [], x :: xs, h => by simp [likeZ] at h
  | z :: zs, [], h => by cases z <;> simp [likeZ] at h
  | z :: zs, x :: xs, h => by
    cases z <;> cases x <;> simp only [List.map_cons, likeZ, Bool.and_eq_true, Bool.false_eq_true] at h
    · exact likeV_cons' (by simp [likeV]) (likeZ_V h)
    · exact likeV_cons' (by simp [likeV, h.1]) (likeZ_V h.2)
    · exact likeV_cons' (by simp [likeV]) (likeZ_V h)

theorem repAg_V {H : Mem} {vs : List Value} {xs : Array Value} (h : RepD H (.ag (vs.map .v)) (.agg xs)) : xs = vs.toArray := by
  cases h with
  | ag hs hh =>
    apply Array.ext
    · simpa using hs
    · intro i h1 h2
      have hv : i < vs.length := by simpa using h2
      have := hh i (.v vs[i]) (by simp [hv])
      rw [show xs.getD i undef = xs[i] by simp [Array.getD, h1]] at this
      have k : vs.toArray[i] = vs[i] := by simp
      rw [k]
      generalize xs[i] = y at this ⊢
      generalize vs[i] = z at this ⊢
      cases this
      rfl

/-- A table of comparable types. -/
def flatAll (P : Program) (l : List (TypeId × List Value)) : Bool := l.all fun x => agOf P x.1 && !P.eqGuardType P.depth x.1 && flatT P 20 x.1 x.2

theorem eq_ok (l : List (TypeId × List Value)) (h : flatAll P l = true) (hz : ∀ x ∈ l, ∀ ti, tiOf P x.1 = some ti → ti.zero = x.2) : EqOK P (fun t => l.any fun x => x.1 == t) := by
  intro t ti hQ hti
  simp only [List.any_eq_true, beq_iff_eq] at hQ
  obtain ⟨⟨t', zs⟩, hm, rfl⟩ := hQ
  have hf := (List.all_eq_true.1 h) _ hm
  simp only [Bool.and_eq_true, Bool.not_eq_true'] at hf
  obtain ⟨⟨h1, h2⟩, h3⟩ := hf
  refine ⟨h2, fun H xs ys ds es c w hx hy hl he => ?_⟩
  have hzz := hz _ hm ti hti
  simp only at hzz
  obtain ⟨vs, us, rfl, rfl, hev⟩ := eqCells_V he
  rw [repAg_V hx, repAg_V hy]
  have := flat_run w 20 t' zs vs us c 10000 (by omega) h3 (by rw [hzz] at hl; exact likeZ_V hl) hev
  have hl2 := likeZ_V (vs := vs) (zs := zs) (by rw [hzz] at hl; exact hl)
  have hck := fun b => flat_chk (P := P) w b 20 t' zs vs 10000 (by omega) h3 hl2
  unfold mkV at this hck
  rw [h1, if_pos rfl, if_pos rfl] at this
  rw [h1, if_pos rfl] at hck
  exact ⟨this, hck⟩
end
end Go.Jo
