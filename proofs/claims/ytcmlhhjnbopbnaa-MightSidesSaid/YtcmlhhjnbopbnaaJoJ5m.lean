/- Operations on maps whose keys are plain, or structs of plain leaves. Over any program. -/
import Derived.Test.YtcmlhhjnbopbnaaJoJ5
import Derived.MapKept
import Derived.Laws.StructEq
namespace Go.Jo
open Go.RowKit
set_option autoImplicit false

theorem likeV_len : ∀ {zs xs : List Value}, likeV zs xs = true → zs.length = xs.length
  | [], [], _ => rfl
  | [], x :: xs, h => by simp [likeV] at h
  | z :: zs, [], h => by cases z <;> simp [likeV] at h
  | z :: zs, x :: xs, h => by
    have : likeV zs xs = true := by
      unfold likeV at h
      split at h
      · rename_i e1 e2; cases e1
      · rename_i e1 e2; cases e1; cases e2; simp only [Bool.and_eq_true] at h; exact h.2
      · rename_i e1 e2; cases e1; cases e2; exact h
      · rename_i e1 e2; cases e1; cases e2; exact h
      · cases h
    simp [likeV_len this]

theorem likeV_cons {z x : Value} {zs xs : List Value} (h : likeV (z :: zs) (x :: xs) = true) : likeV [z] [x] = true ∧ likeV zs xs = true := by
  unfold likeV at h
  split at h
  · rename_i e1 e2; cases e1
  · rename_i e1 e2; cases e1; cases e2; simp only [Bool.and_eq_true] at h; exact ⟨by simp [likeV, h.1], h.2⟩
  · rename_i e1 e2; cases e1; cases e2; exact ⟨by simp [likeV], h⟩
  · rename_i e1 e2; cases e1; cases e2; exact ⟨by simp [likeV], h⟩
  · cases h

theorem likeV_cons' {z x : Value} {zs xs : List Value} (h : likeV [z] [x] = true) (k : likeV zs xs = true) : likeV (z :: zs) (x :: xs) = true := by
  cases z <;> cases x <;> simp_all [likeV]

theorem likeV_trans : ∀ {a b c : List Value}, likeV a b = true → likeV b c = true → likeV a c = true
  | [], [], c, _, h => h
  | [], x :: xs, _, h, _ => by simp [likeV] at h
  | z :: zs, [], _, h, _ => by cases z <;> simp [likeV] at h
  | z :: zs, x :: xs, [], h, k => by cases x <;> simp [likeV] at k
  | z :: zs, x :: xs, y :: ys, h, k => by
    obtain ⟨h1, h2⟩ := likeV_cons h
    obtain ⟨k1, k2⟩ := likeV_cons k
    refine likeV_cons' ?_ (likeV_trans h2 k2)
    cases z <;> cases x <;> simp only [likeV, Bool.false_eq_true, Bool.and_true, decide_eq_true_eq] at h1 <;> cases y <;> simp_all [likeV]

theorem likeV_one : ∀ {zs xs : List Value}, likeV zs xs = true → ∀ v ∈ xs, v.oneCell' = true
  | [], [], _, v, hv => by cases hv
  | [], x :: xs, h, _, _ => by simp [likeV] at h
  | z :: zs, [], h, _, _ => by cases z <;> simp [likeV] at h
  | z :: zs, x :: xs, h, v, hv => by
    obtain ⟨h1, h2⟩ := likeV_cons h
    rcases List.mem_cons.1 hv with rfl | hv
    · cases z <;> cases v <;> simp [likeV] at h1 <;> rfl
    · exact likeV_one h2 v hv

theorem likeV_Z : ∀ {zs vs : List Value}, likeV zs vs = true → likeZ zs (vs.map .v) = true
  | [], [], _ => rfl
  | [], x :: xs, h => by simp [likeV] at h
  | z :: zs, [], h => by cases z <;> simp [likeV] at h
  | z :: zs, x :: xs, h => by
    obtain ⟨h1, h2⟩ := likeV_cons h
    have := likeV_Z h2
    cases z <;> cases x <;> simp_all [likeV, likeZ]

theorem bytes_beq (a b : ByteArray) : (a == b) = true ↔ a = b := by
  rw [beq_toListBytes, beq_iff_eq, ByteArray.toList_eq, ByteArray.toList_eq]
  constructor
  · intro h
    obtain ⟨a⟩ := a
    obtain ⟨b⟩ := b
    simp only at h
    rw [Array.toList_inj.1 h]
  · intro h; rw [h]

/-- '==' of keys of one kind tells whether they are the same. -/
theorem eqCells_like : ∀ {zs vs us : List Value}, likeV zs vs = true → likeV zs us = true → ∃ c, eqCells (vs.map .v) (us.map .v) = some c ∧ (c = true ↔ vs = us)
  | [], [], [], _, _ => ⟨true, rfl, by simp⟩
  | [], x :: xs, _, h, _ => by simp [likeV] at h
  | [], [], y :: ys, _, h => by simp [likeV] at h
  | z :: zs, [], _, h, _ => by cases z <;> simp [likeV] at h
  | z :: zs, x :: xs, [], _, h => by cases z <;> simp [likeV] at h
  | z :: zs, x :: xs, y :: ys, h, k => by
    obtain ⟨h1, h2⟩ := likeV_cons h
    obtain ⟨k1, k2⟩ := likeV_cons k
    obtain ⟨c, hc, hi⟩ := eqCells_like h2 k2
    cases z <;> cases x <;> simp only [likeV, Bool.false_eq_true, Bool.and_true, decide_eq_true_eq] at h1 <;> cases y <;> simp only [likeV, Bool.false_eq_true, Bool.and_true, decide_eq_true_eq] at k1
    · rename_i p q r
      exact ⟨q == r && c, by simp only [List.map_cons, eqCells, hc, Option.map_some], by simp only [Bool.and_eq_true, beq_iff_eq, hi, List.cons.injEq, Value.bool.injEq]⟩
    · rename_i k0 p k1' q k2' r
      subst h1; subst k1
      exact ⟨q == r && c, by simp only [List.map_cons, eqCells, if_true, hc, Option.map_some], by simp only [Bool.and_eq_true, beq_iff_eq, hi, List.cons.injEq, Value.int.injEq, true_and]⟩
    · rename_i p q r
      exact ⟨q == r && c, by simp only [List.map_cons, eqCells, hc, Option.map_some], by simp only [Bool.and_eq_true, bytes_beq, hi, List.cons.injEq, Value.string.injEq]⟩

theorem repAg {H : Mem} {vs : List Value} (h : ∀ v ∈ vs, v.oneCell' = true) : RepD H (.ag (vs.map .v)) (.agg vs.toArray) :=
  .ag (by simp) (fun i x hx => by
    rw [List.getElem?_map, Option.map_eq_some_iff] at hx
    obtain ⟨y, hy, rfl⟩ := hx
    have : vs.toArray.getD i undef = y := by rw [Array.getD_eq_getD_getElem?, List.getElem?_toArray, hy]; rfl
    rw [this]
    exact .v (h y (List.mem_of_getElem? hy)))

/-- What is asked of a key's type. -/
structure KeyLaw (P : Program) (kt : TypeId) (zs : List Value) (ag : Bool) : Prop where
  chk : ∀ b K w, likeV zs K = true → (Instr.checkKey b 10000 kt (mkK ag K)).run P w = .ok () w
  eq : ∀ K K' w, likeV zs K = true → likeV zs K' = true → ∃ r, (Op.equal kt (mkK ag K) (mkK ag K')).run P w = .ok r w ∧ (r = true ↔ K = K')
  desc : ∃ d, P.underlying kt = some d ∧ ∀ K K', likeV zs K = true → likeV zs K' = true → Instr.sameNow d (mkK ag K) (mkK ag K') = none ∨ ∃ r, Instr.sameNow d (mkK ag K) (mkK ag K') = some r ∧ (r = true ↔ K = K')
  inj : ∀ K K', likeV zs K = true → likeV zs K' = true → mkK ag K = mkK ag K' → K = K'
  bits : ∀ K, likeV zs K = true → Instr.sameBits 10000 (mkK ag K) (mkK ag K) = true
  one : ag = false → zs.length = 1

theorem sameBits_plain {z v : Value} (h : likeV [z] [v] = true) (n : Nat) : Instr.sameBits n v v = true := by
  cases z <;> cases v <;> simp [likeV] at h <;> cases n <;> simp [Instr.sameBits, bytes_beq]

theorem sameBits_all : ∀ {zs vs : List Value}, likeV zs vs = true → ∀ n, ((vs.zip vs).all fun x => Instr.sameBits n x.1 x.2) = true
  | [], [], _, n => rfl
  | [], x :: xs, h, _ => by simp [likeV] at h
  | z :: zs, [], h, _ => by cases z <;> simp [likeV] at h
  | z :: zs, x :: xs, h, n => by
    obtain ⟨h1, h2⟩ := likeV_cons h
    simp only [List.zip_cons_cons, List.all_cons, Bool.and_eq_true]
    exact ⟨sameBits_plain h1 n, sameBits_all h2 n⟩

section
variable {P : Program} {T : Nat → Option TI} {Q : Nat → Bool}

theorem keyLaw (hT : TOK P T) (hQ : EqOK P Q) {kt : TypeId} {tk : TI} (hk : T kt = some tk) {zs : List Value} {ag : Bool} (h1 : likeV tk.zero zs = true) (h2 : tk.ag = ag) (h3 : (bif ag then Q kt else plainTK tk.tk zs) = true) : KeyLaw P kt zs ag := by
  obtain ⟨info, d, z, hi, hu, hz, htk, hq1, hq2, hag, hzero, hq3⟩ := tiOf_spec (hT _ _ hk)
  clear hq1 hq2 hq3 hzero hz
  cases hag' : ag with
  | true =>
    subst hag'
    simp only [cond_true] at h3
    obtain ⟨g1, g2⟩ := hQ kt tk h3 (hT _ _ hk)
    have key : ∀ K K' (w : World), likeV zs K = true → likeV zs K' = true → ∃ r, ((Op.equal kt (.agg K.toArray) (.agg K'.toArray)).run P w = .ok r w ∧ ∀ b, (Instr.checkKey b 10000 kt (.agg K.toArray)).run P w = .ok () w) ∧ (r = true ↔ K = K') := by
      intro K K' w a b
      obtain ⟨c, hc, hci⟩ := eqCells_like a b
      exact ⟨c, g2 (fun _ => none) _ _ _ _ c w (repAg (likeV_one a)) (repAg (likeV_one b)) (likeV_Z (likeV_trans h1 a)) hc, hci⟩
    refine ⟨fun b K w a => ?_, fun K K' w a b => ?_, ⟨d, hu, fun K K' a b => ?_⟩, fun K K' a b e => ?_, fun K a => ?_, fun e => (by cases e)⟩
    · obtain ⟨r, hr, _⟩ := key K K w a a; exact hr.2 b
    · obtain ⟨r, hr, hi⟩ := key K K' w a b; exact ⟨r, hr.1, hi⟩
    · left; simp only [mkK, if_true]; cases d <;> rfl
    · simp only [mkK, if_true, Value.agg.injEq] at e
      have := congrArg Array.toList e
      simpa using this
    · simp only [mkK, if_true, Instr.sameBits, beq_self_eq_true, Bool.true_and]
      have := sameBits_all a 9999
      simpa using this
  | false =>
    subst hag'
    simp only [cond_false] at h3
    rw [htk] at h3
    match zs, h3 with
    | [z], h3 =>
      have one : ∀ {K : List Value}, likeV [z] K = true → ∃ v, K = [v] ∧ likeV [z] [v] = true := fun {K} a => by
        have hl := likeV_len a
        match K, hl, a with
        | [v], _, a => exact ⟨v, rfl, a⟩
      cases z with
      | int k0 z0 =>
        cases d <;> simp only [tkOf, plainTK, Bool.false_eq_true, decide_eq_true_eq] at h3
        subst h3
        rename_i kk
        have inv : ∀ {K : List Value}, likeV [.int kk z0] K = true → ∃ n, K = [.int kk n] := fun {K} a => by
          obtain ⟨v, rfl, b⟩ := one a
          cases v <;> simp only [likeV, Bool.and_true, decide_eq_true_eq, Bool.false_eq_true] at b
          subst b; exact ⟨_, rfl⟩
        refine ⟨fun b K w a => ?_, fun K K' w a b => ?_, ⟨_, hu, fun K K' a b => ?_⟩, fun K K' a b e => ?_, fun K a => ?_, fun _ => rfl⟩
        · obtain ⟨n, rfl⟩ := inv a
          exact MapKept.run_checkKey hu (by simp [mkK, MapKept.IsKey]) b 9999
        · obtain ⟨n, rfl⟩ := inv a
          obtain ⟨m, rfl⟩ := inv b
          exact ⟨n == m, run_equalIn_int w 9999 kt _ _ n m hu, by simp⟩
        · obtain ⟨n, rfl⟩ := inv a
          obtain ⟨m, rfl⟩ := inv b
          exact .inr ⟨n == m, by simp [mkK, Instr.sameNow], by simp⟩
        · obtain ⟨n, rfl⟩ := inv a
          obtain ⟨m, rfl⟩ := inv b
          simp [mkK] at e; rw [e]
        · obtain ⟨n, rfl⟩ := inv a
          simp [mkK, Instr.sameBits]
      | bool z0 =>
        cases d <;> simp only [tkOf, plainTK, Bool.false_eq_true] at h3
        have inv : ∀ {K : List Value}, likeV [.bool z0] K = true → ∃ n, K = [.bool n] := fun {K} a => by
          obtain ⟨v, rfl, b⟩ := one a
          cases v <;> simp only [likeV, Bool.and_true, decide_eq_true_eq, Bool.false_eq_true] at b
          exact ⟨_, rfl⟩
        refine ⟨fun b K w a => ?_, fun K K' w a b => ?_, ⟨_, hu, fun K K' a b => ?_⟩, fun K K' a b e => ?_, fun K a => ?_, fun _ => rfl⟩
        · obtain ⟨n, rfl⟩ := inv a
          exact MapKept.run_checkKey hu (by simp [mkK, MapKept.IsKey]) b 9999
        · obtain ⟨n, rfl⟩ := inv a
          obtain ⟨m, rfl⟩ := inv b
          exact ⟨n == m, Go.run_equalIn_bool' w 9999 kt n m hu, by simp⟩
        · obtain ⟨n, rfl⟩ := inv a
          obtain ⟨m, rfl⟩ := inv b
          exact .inr ⟨n == m, by simp [mkK, Instr.sameNow], by simp⟩
        · obtain ⟨n, rfl⟩ := inv a
          obtain ⟨m, rfl⟩ := inv b
          simp [mkK] at e; rw [e]
        · obtain ⟨n, rfl⟩ := inv a
          simp [mkK, Instr.sameBits]
      | string z0 =>
        cases d <;> simp only [tkOf, plainTK, Bool.false_eq_true] at h3
        have inv : ∀ {K : List Value}, likeV [.string z0] K = true → ∃ n, K = [.string n] := fun {K} a => by
          obtain ⟨v, rfl, b⟩ := one a
          cases v <;> simp only [likeV, Bool.and_true, decide_eq_true_eq, Bool.false_eq_true] at b
          exact ⟨_, rfl⟩
        refine ⟨fun b K w a => ?_, fun K K' w a b => ?_, ⟨_, hu, fun K K' a b => ?_⟩, fun K K' a b e => ?_, fun K a => ?_, fun _ => rfl⟩
        · obtain ⟨n, rfl⟩ := inv a
          exact MapKept.run_checkKey hu (by simp [mkK, MapKept.IsKey]) b 9999
        · obtain ⟨n, rfl⟩ := inv a
          obtain ⟨m, rfl⟩ := inv b
          exact ⟨n.toList == m.toList, run_equalIn_string w 9999 kt n m hu, by rw [← beq_toListBytes, bytes_beq]; simp⟩
        · obtain ⟨n, rfl⟩ := inv a
          obtain ⟨m, rfl⟩ := inv b
          exact .inr ⟨n == m, by simp [mkK, Instr.sameNow], by rw [bytes_beq]; simp⟩
        · obtain ⟨n, rfl⟩ := inv a
          obtain ⟨m, rfl⟩ := inv b
          simp [mkK] at e; rw [e]
        · obtain ⟨n, rfl⟩ := inv a
          simp [mkK, Instr.sameBits, bytes_beq]
      | _ => cases d <;> simp [tkOf, plainTK] at h3
    | [], h3 => cases d <;> simp [tkOf, plainTK] at h3
    | _ :: _ :: _, h3 => cases d <;> simp [tkOf, plainTK] at h3

/-! ### finding -/
/-- What is found: nothing; the first entry of that key. -/
def Found (key : Value) (l : List MapEntry) (i : Nat) : Option (Nat × Value) → Prop
  | none => ∀ e ∈ l, e.key ≠ key
  | some r => ∃ j e, l[j]? = some e ∧ e.key = key ∧ r = (i + j, e.val)

theorem Found.there {key : Value} {e : MapEntry} {l : List MapEntry} {i : Nat} (h : e.key = key) : Found key (e :: l) i (some (i, e.val)) := ⟨0, e, rfl, h, rfl⟩
theorem Found.later {key : Value} {e : MapEntry} {l : List MapEntry} {i : Nat} {r : Option (Nat × Value)} (hne : e.key ≠ key) (h : Found key l (i + 1) r) : Found key (e :: l) i r := by
  cases r with
  | none => intro x hx; rcases List.mem_cons.1 hx with rfl | hx; exact hne; exact h x hx
  | some r => obtain ⟨j, x, h1, h2, rfl⟩ := h; exact ⟨j + 1, x, by simpa using h1, h2, by simp; omega⟩

variable {kt : TypeId} {zs : List Value} {ag : Bool}

theorem findNow_ok (L : KeyLaw P kt zs ag) {d : TypeDesc} (hd : P.underlying kt = some d) {K : List Value} (hK : likeV zs K = true) : ∀ (l : List MapEntry) (i : Nat), (∀ e ∈ l, ∃ K', e.key = mkK ag K' ∧ likeV zs K' = true) →
    Instr.findNow d (mkK ag K) l i = none ∨ ∃ r, Instr.findNow d (mkK ag K) l i = some r ∧ Found (mkK ag K) l i r
  | [], i, _ => .inr ⟨none, rfl, fun e he => by cases he⟩
  | e :: l, i, hl => by
    obtain ⟨K', hk, hz⟩ := hl e (by simp)
    obtain ⟨d', hd', hs⟩ := L.desc
    rw [hd] at hd'; cases hd'
    simp only [Instr.findNow, hk]
    rcases hs K K' hK hz with e1 | ⟨r, e1, e2⟩
    · rw [e1]; exact .inl rfl
    · rw [e1]
      cases r with
      | true => exact .inr ⟨_, rfl, Found.there (by rw [hk, e2.1 rfl])⟩
      | false =>
        have hne : e.key ≠ mkK ag K := fun e3 => by
          rw [hk] at e3
          have := L.inj _ _ hz hK e3
          subst this
          have := e2.2 rfl
          cases this
        rcases findNow_ok L hd hK l (i + 1) (fun x hx => hl x (by simp [hx])) with e3 | ⟨r, e3, e4⟩
        · exact .inl e3
        · exact .inr ⟨r, e3, Found.later hne e4⟩

theorem findAsking_ok (L : KeyLaw P kt zs ag) (w : World) {K : List Value} (hK : likeV zs K = true) : ∀ (l : List MapEntry) (i : Nat), (∀ e ∈ l, ∃ K', e.key = mkK ag K' ∧ likeV zs K' = true) →
    ∃ r, (Instr.findAsking kt (mkK ag K) l i).run P w = .ok r w ∧ Found (mkK ag K) l i r
  | [], i, _ => ⟨none, rfl, fun e he => by cases he⟩
  | e :: l, i, hl => by
    obtain ⟨K', hk, hz⟩ := hl e (by simp)
    obtain ⟨r, e1, e2⟩ := L.eq K K' w hK hz
    simp only [Instr.findAsking, Sem.run_bind, hk, e1, Result.andThen_ok]
    cases r with
    | true => exact ⟨_, rfl, Found.there (by rw [hk, e2.1 rfl])⟩
    | false =>
      have hne : e.key ≠ mkK ag K := fun e3 => by
        rw [hk] at e3
        have := L.inj _ _ hz hK e3
        subst this
        have := e2.2 rfl
        cases this
      obtain ⟨r, e3, e4⟩ := findAsking_ok L w hK l (i + 1) (fun x hx => hl x (by simp [hx]))
      exact ⟨r, by simpa using e3, Found.later hne e4⟩

theorem findKey_ok (L : KeyLaw P kt zs ag) (w : World) {K : List Value} (hK : likeV zs K = true) (l : List MapEntry) (hl : ∀ e ∈ l, ∃ K', e.key = mkK ag K' ∧ likeV zs K' = true) :
    ∃ r, (Instr.findKey kt (mkK ag K) l).run P w = .ok r w ∧ Found (mkK ag K) l 0 r := by
  obtain ⟨d, hd, _⟩ := L.desc
  rcases findNow_ok L hd hK l 0 hl with e | ⟨r, e1, e2⟩
  · obtain ⟨r, e1, e2⟩ := findAsking_ok L w hK l 0 hl
    exact ⟨r, by simp [Instr.findKey, run_underlying hd, e, e1], e2⟩
  · exact ⟨r, MapKept.run_findKey hd e1, e2⟩


theorem keyC_rep {g : G} {av : AV} {v : Value} {ag : Bool} {K : List Value} (h : Rep g.H g.β av v) (hk : keyC ag av = some K) : v = mkK ag K := by
  unfold keyC at hk
  split at hk
  · rename_i ds
    cases ag with
    | false => cases hk
    | true =>
      simp only [cond_true] at hk
      have : ∀ {ds : List D} {K : List Value}, plainVs ds = some K → ds = K.map .v := by
        intro ds
        induction ds with
        | nil => intro K h; simp [plainVs] at h; subst h; rfl
        | cons x l ih =>
          intro K h
          cases x with
          | v x =>
            simp only [plainVs, Option.map_eq_some_iff] at h
            obtain ⟨K', h1, rfl⟩ := h
            simp [ih h1]
          | _ => simp [plainVs] at h
      have e := this hk
      subst e
      cases h with
      | d h =>
        cases h with
        | ag hs hh =>
          rename_i vs
          simp only [mkK, if_true, Value.agg.injEq]
          apply Array.ext
          · simpa using hs
          · intro i h1 h2
            have hv : i < K.length := by simpa using h2
            have := hh i (.v K[i]) (by simp [hv])
            rw [show vs.getD i undef = vs[i] by simp [Array.getD, h1]] at this
            have k : K.toArray[i] = K[i] := by simp
            rw [k]
            generalize vs[i] = y at this ⊢
            generalize K[i] = z at this ⊢
            cases this
            rfl
  · rename_i x
    cases ag with
    | true => cases hk
    | false => cases hk; exact h.lit_inv
  · cases hk

theorem Rep.mv_inv {H : Mem} {β : Bl} {b : Nat} {v : Value} (h : Rep H β (.mv b) v) : ∃ blk c, v = .map (some blk) ∧ β b = some (blk, c) := by
  cases h with
  | mv h => exact ⟨_, _, rfl, h⟩

theorem sameZ_eq : ∀ {a b : List Value}, sameZ a b = true → a = b := by
  intro a
  induction a with
  | nil => intro b h; cases b with | nil => rfl | cons => simp [sameZ] at h
  | cons x a ih =>
    intro b h
    cases b with
    | nil => cases x <;> simp [sameZ] at h
    | cons y b =>
      unfold sameZ at h
      split at h
      · rename_i e1 e2; cases e1
      · rename_i e1 e2
        cases e1; cases e2
        simp only [Bool.and_eq_true, decide_eq_true_eq] at h
        obtain ⟨⟨rfl, rfl⟩, h⟩ := h; rw [ih h]
      · rename_i e1 e2
        cases e1; cases e2
        simp only [Bool.and_eq_true, beq_iff_eq] at h
        obtain ⟨rfl, h⟩ := h; rw [ih h]
      · rename_i e1 e2
        cases e1; cases e2
        simp only [Bool.and_eq_true, decide_eq_true_eq] at h
        obtain ⟨rfl, h⟩ := h; rw [ih h]
      · rename_i e1 e2; cases e1; cases e2; rw [ih h]
      · rename_i e1 e2; cases e1; cases e2; rw [ih h]
      · rename_i e1 e2; cases e1; cases e2; rw [ih h]
      · cases h

theorem zero_run {el : TypeId} {te : TI} (hT : tiOf P el = some te) (w : World) : (zeroValue el).run P w = .ok (mkK te.ag te.zero) w := by
  obtain ⟨info, d, v, hi, hu, hzv, _, _, _, hag, hzero, hone, _⟩ := tiOf_spec hT
  obtain ⟨info', d', v', hi', hu', hzv', hav⟩ := tiOf_zero hT
  rw [hi] at hi'; cases hi'
  rw [hu] at hu'; cases hu'
  rw [hzv] at hzv'; cases hzv'
  rw [run_zeroValue' hi hzv w]
  congr 1
  rw [← hag] at hav
  cases ha : te.ag with
  | true =>
    rw [ha] at hav
    cases v <;> simp only [isAgV, Bool.false_eq_true] at hav
    rename_i cs
    have : te.zero = cs.toList := by rw [hzero]; rfl
    simp [mkK, this]
  | false =>
    rw [ha] at hav
    have hv : v.cells = #[v] := by cases v <;> first | rfl | (simp [isAgV] at hav)
    rw [hv] at hzero
    simp [mkK, hzero]

theorem keyOK_spec (hT : TOK P T) (hQ : EqOK P Q) {t : Nat} {zc : List Value} {za : Bool} {zs K : List Value} {ag : Bool} (h : keyOK T Q t zc za zs ag K = true) : ∃ kt el, P.underlying t = some (.map kt el) ∧ KeyLaw P kt zs ag ∧ likeV zs K = true ∧ ∀ w, (zeroValue el).run P w = .ok (mkK za zc) w := by
  unfold keyOK at h
  split at h
  · rename_i ti hti
    split at h
    · rename_i kt el htk
      split at h
      · rename_i tk te hk hel
        simp only [Bool.and_eq_true, beq_iff_eq] at h
        obtain ⟨⟨⟨⟨⟨h1, h2⟩, h3⟩, h4⟩, h5⟩, h6⟩ := h
        obtain ⟨info, d, z, hi, hu, hz, htk', _⟩ := tiOf_spec (hT _ _ hti)
        refine ⟨kt, el, ?_, keyLaw hT hQ hk h1 h3 h4, h2, fun w => ?_⟩
        · rw [htk] at htk'
          cases d <;> simp [tkOf] at htk'
          obtain ⟨rfl, rfl⟩ := htk'
          exact hu
        · rw [← h5, ← sameZ_eq h6]; exact zero_run (hT _ _ hel) w
      · cases h
    · cases h
  · cases h

variable {h : List HObj} {g : G} {w : World} {o : Oper} {a : Act}

theorem makeMap_sound {t : TypeId} (ho : o.op = .makeMap t none) : OutOK P o a w g (amake T t) := by
  unfold amake
  repeat' first | trivial | split
  all_goals
    show (execOp a.eval o).run P w = _
    simp [execOp, ho, Instr.makeMap]

theorem MapOK.keysOf {H : Mem} {zc : List Value} {za : Bool} {val : List Value → D} {has : List Value → Bool} {ps : List (List Value)} {zs : List Value} {ag : Bool} {es : Array MapEntry} {clock : Nat} (m : MapOK H zc za val has ps zs ag es clock) :
    ∀ e ∈ es.toList, ∃ K', e.key = mkK ag K' ∧ likeV zs K' = true := fun e he => by
  obtain ⟨i, hi, rfl⟩ := List.getElem_of_mem he
  have hi' : i < es.size := by simpa using hi
  obtain ⟨K, h1, _, _, h4⟩ := m.at_ i es[i] (by simp [hi'])
  exact ⟨K, by simpa using h1, h4⟩

theorem look_main {H : Mem} {zc : List Value} {za : Bool} {val : List Value → D} {has : List Value → Bool} {ps : List (List Value)} {zs : List Value} {ag : Bool} {es : Array MapEntry} {clock : Nat}
    (M : MapOK H zc za val has ps zs ag es clock) {kt : TypeId} (L : KeyLaw P kt zs ag) {K : List Value} (hK : likeV zs K = true) {r : Option (Nat × Value)} (hF : Found (mkK ag K) es.toList 0 r) :
    (∃ (i : Nat) (e : MapEntry), r = some (i, e.val) ∧ RepD H (val K) e.val ∧ es[i]? = some e ∧ e.key = mkK ag K ∧ (has K = false → K ∈ ps)) ∨ (r = none ∧ has K = false ∧ RepD H (val K) (mkK za zc) ∧ ∀ (i : Nat) (e : MapEntry), es[i]? = some e → e.key ≠ mkK ag K) := by
  cases r with
  | some r =>
    obtain ⟨j, e, h1, h2, rfl⟩ := hF
    left
    have h1' : es[j]? = some e := by simpa using h1
    obtain ⟨K', k1, k2, k3, k4⟩ := M.at_ j e h1'
    have : K' = K := L.inj _ _ k4 hK (by rw [← k1, h2])
    subst this
    exact ⟨j, e, by rw [Nat.zero_add], k2, h1', h2, k3⟩
  | none =>
    right
    have hno : ∀ (i : Nat) (e : MapEntry), es[i]? = some e → e.key ≠ mkK ag K := fun i e he => hF e (by
      have := Array.mem_of_getElem? he
      exact Array.mem_toList_iff.2 this)
    have hh : has K = false := by
      cases e : has K with
      | false => rfl
      | true =>
        obtain ⟨i, x, h1, h2, _⟩ := M.all K e
        exact absurd h2 (hno i x h1)
    exact ⟨rfl, hh, M.zero K hh, hno⟩

theorem repTu {H : Mem} {x : D} {v : Value} (h : RepD H x v) (b : Bool) : RepD H (.tu [x, .v (.bool b)]) (.tuple #[v, .bool b]) :=
  .tu rfl (fun i y hy => by
    match i, hy with
    | 0, hy => simp at hy; subst hy; exact h
    | 1, hy => simp at hy; subst hy; exact .v rfl
    | i + 2, hy => simp at hy)

theorem lookup_sound (hT : TOK P T) (hQ : EqOK P Q) (hs : Seen h g w) {t : TypeId} {m k : Operand} {ok : Bool} {mv kv : AV} (hm : Rep g.H g.β mv (a.eval m)) (hk : Rep g.H g.β kv (a.eval k)) (ho : o.op = .lookup t m k ok) : OutOK P o a w g (alook T Q h t mv kv ok) := by
  unfold alook
  split
  · rename_i b
    split
    · rename_i zc za val has ps zs ag hob
      split
      · rename_i K hK
        cases hb : keyOK T Q t zc za zs ag K with
        | false => trivial
        | true =>
          obtain ⟨kt, el, hu, L, hlk, hz⟩ := keyOK_spec hT hQ hb
          obtain ⟨blk, c, hmv, hβ⟩ := hm.mv_inv
          obtain ⟨es, clock, hw, M⟩ := hs.obj b _ blk c hob hβ
          have hkv := keyC_rep hk hK
          obtain ⟨r, hr, hF⟩ := findKey_ok L w hlk es.toList M.keysOf
          rw [cond_true]
          rcases look_main M L hlk hF with ⟨i, e, rfl, h1, h2, h3, h4⟩ | ⟨rfl, h1, h2, h3⟩
          · have run' : (execOp a.eval o).run P w = .ok (.value (if ok then .tuple #[e.val, .bool true] else e.val)) w := by
              simp [execOp, ho, hmv, hkv, Instr.lookup, run_underlying hu, MapKept.run_getObj_map hw, L.chk _ K w hlk, hr]
            cases ok with
            | true =>
              rw [cond_true]
              split
              · intro _
                have : has K = true := by
                  cases e' : has K with
                  | true => rfl
                  | false => have := h4 e'; cases this
                rw [this]
                exact ⟨_, run', .d (repTu h1 true)⟩
              · trivial
            | false => intro _; exact ⟨_, run', .d h1⟩
          · have run' : (execOp a.eval o).run P w = .ok (.value (if ok then .tuple #[mkK za zc, .bool false] else mkK za zc)) w := by
              simp [execOp, ho, hmv, hkv, Instr.lookup, run_underlying hu, MapKept.run_getObj_map hw, L.chk _ K w hlk, hr, hz]
            cases ok with
            | true =>
              rw [cond_true]
              split
              · intro _
                rw [h1]
                exact ⟨_, run', .d (repTu h2 false)⟩
              · trivial
            | false => intro _; exact ⟨_, run', .d h2⟩
      · trivial
    · trivial
  · trivial

theorem modify_self {es : Array MapEntry} {i : Nat} {e : MapEntry} {f : MapEntry → MapEntry} (h : es[i]? = some e) (hf : f e = e) : es.modify i f = es := by
  apply Array.ext
  · simp
  · intro j h1 h2
    rw [Array.getElem_modify]
    split
    · rename_i e'
      subst e'
      have : es[i] = e := by rw [Array.getElem?_eq_getElem h2] at h; exact Option.some.inj h
      rw [this, hf]
    · rfl

theorem push_old {es : Array MapEntry} {j : Nat} {x y : MapEntry} (h : es[j]? = some x) : (es.push y)[j]? = some x := by
  have hlt := (Array.getElem?_eq_some_iff.1 h).1
  rw [Array.getElem?_push, if_neg (by omega)]; exact h

theorem push_cases {es : Array MapEntry} {j : Nat} {x y : MapEntry} (h : (es.push y)[j]? = some x) : (j = es.size ∧ x = y) ∨ es[j]? = some x := by
  rw [Array.getElem?_push] at h
  split at h
  · rename_i e; exact .inl ⟨e, (Option.some.inj h).symm⟩
  · exact .inr h

/-- One more entry. -/
theorem MapOK.push {H : Mem} {zc : List Value} {za : Bool} {val : List Value → D} {has : List Value → Bool} {ps : List (List Value)} {zs : List Value} {ag : Bool} {es : Array MapEntry} {clock : Nat} (M : MapOK H zc za val has ps zs ag es clock)
    {K : List Value} (hK : likeV zs K = true) {v : Value} (hv : RepD H (val K) v) (hno : ∀ (i : Nat) (e : MapEntry), es[i]? = some e → e.key ≠ mkK ag K) (hp : has K = false → K ∈ ps) (hh : has K = true → False) :
    MapOK H zc za val has ps zs ag (es.push { key := mkK ag K, val := v, born := clock }) (clock + 1) where
  at_ i e he := by
    rcases push_cases he with ⟨_, rfl⟩ | he
    · exact ⟨K, rfl, hv, hp, hK⟩
    · exact M.at_ i e he
  all K' hK' := by
    obtain ⟨i, e, h1, h2⟩ := M.all K' hK'
    exact ⟨i, e, push_old h1, h2⟩
  zero := M.zero
  keys i j e e' h1 h2 h3 := by
    rcases push_cases h1 with ⟨i1, rfl⟩ | h1 <;> rcases push_cases h2 with ⟨i2, rfl⟩ | h2
    · rw [i1, i2]
    · exact absurd h3.symm (hno j e' h2)
    · exact absurd h3 (hno i e h1)
    · exact M.keys i j e e' h1 h2 h3
  lt i e he := by
    rcases push_cases he with ⟨_, rfl⟩ | he
    · exact Nat.lt_succ_self _
    · exact Nat.lt_succ_of_lt (M.lt i e he)
  born i j e e' h1 h2 h3 := by
    rcases push_cases h1 with ⟨i1, rfl⟩ | h1 <;> rcases push_cases h2 with ⟨i2, rfl⟩ | h2
    · rw [i1, i2]
    · have := M.lt j e' h2; simp only at h3; omega
    · have := M.lt i e h1; simp only at h3; omega
    · exact M.born i j e e' h1 h2 h3

theorem keyStays {K : List Value} {kt : TypeId} {zs : List Value} {ag : Bool} (L : KeyLaw P kt zs ag) (hK : likeV zs K = true) (w : World) : (Instr.keyThatStays (mkK ag K) (mkK ag K)).run P w = .ok (mkK ag K) w := by
  simp [Instr.keyThatStays, L.bits K hK]

theorem mapEntry_sound (hT : TOK P T) (hQ : EqOK P Q) (hs : Seen h g w) {t : TypeId} {m k : Operand} {mv kv : AV} (hm : Rep g.H g.β mv (a.eval m)) (hk : Rep g.H g.β kv (a.eval k)) (ho : o.op = .mapEntry t m k) : OutOK P o a w g (aent T Q h t mv kv) := by
  unfold aent
  split
  · rename_i b
    split
    · rename_i zc za val has ps zs ag hob
      split
      · rename_i K hK
        cases hb : keyOK T Q t zc za zs ag K with
        | false => trivial
        | true =>
          obtain ⟨kt, el, hu, L, hlk, hz⟩ := keyOK_spec hT hQ hb
          obtain ⟨blk, c, hmv, hβ⟩ := hm.mv_inv
          have hkv := keyC_rep hk hK
          rw [cond_true]
          intro hp zc' za' val' has' ps' zs' ag' hob'
          cases hob'
          refine ⟨blk, c, hβ, fun es clock hw M => ?_⟩
          obtain ⟨r, hr, hF⟩ := findKey_ok L w hlk es.toList M.keysOf
          rcases look_main M L hlk hF with ⟨i, e, rfl, h1, h2, h3, h4⟩ | ⟨rfl, h1, h2, h3⟩
          · have hmod : (es.modify i fun x => { x with key := mkK ag K }) = es := modify_self h2 (by rw [← h3])
            refine ⟨e.val, es, clock, i, e, ?_, h1, M, h2, h3, fun j x hj => ⟨x, hj, rfl, rfl⟩⟩
            simp only [execOp, ho, hmv, hkv, Instr.mapEntry, Sem.run_bind, run_underlying hu, Result.andThen_ok, MapKept.run_getObj_map hw, L.chk _ K w hlk, hr, h2, Option.map_some, Option.getD_some, h3, keyStays L hlk, hmod, MapKept.run_setObj_map _ hw, Sem.run_pure, Sem.run_map]
            rfl
          · refine ⟨mkK za zc, es.push { key := mkK ag K, val := mkK za zc, born := clock }, clock + 1, es.size, { key := mkK ag K, val := mkK za zc, born := clock }, ?_, h2, ?_, by simp, rfl, fun j x hj => ⟨x, push_old hj, rfl, rfl⟩⟩
            · simp only [execOp, ho, hmv, hkv, Instr.mapEntry, Sem.run_bind, run_underlying hu, Result.andThen_ok, MapKept.run_getObj_map hw, L.chk _ K w hlk, hr, hz, MapKept.run_setObj_map _ hw, Sem.run_pure, Sem.run_map]
              rfl
            · exact M.push hlk h2 h3 (fun _ => hp h1) (fun h => by rw [h1] at h; cases h)
      · trivial
    · trivial
  · trivial
end
end Go.Jo
