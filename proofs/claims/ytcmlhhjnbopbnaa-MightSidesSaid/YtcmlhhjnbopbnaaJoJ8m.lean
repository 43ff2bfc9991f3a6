/- A write into a map does what 'mput' says. Over any program. -/
import Derived.Test.YtcmlhhjnbopbnaaJoJ8
namespace Go.Jo
open Go.RowKit
set_option autoImplicit false
section
variable {P : Program} {T : Nat → Option TI} {Q : Nat → Bool}

theorem eqV_self : ∀ {zs K : List Value}, likeV zs K = true → eqV K K = some true
  | [], [], _ => rfl
  | [], x :: xs, h => by simp [likeV] at h
  | z :: zs, [], h => by cases z <;> simp [likeV] at h
  | z :: zs, x :: xs, h => by
    obtain ⟨h1, h2⟩ := likeV_cons h
    have := eqV_self h2
    cases z <;> cases x <;> simp [likeV] at h1 <;> simp [eqV, this, bytes_beq]

theorem eqV_eq : ∀ {K K' : List Value}, eqV K K' = some true → K = K'
  | [], [], _ => rfl
  | [], _ :: _, h => by simp [eqV] at h
  | x :: xs, [], h => by cases x <;> simp [eqV] at h
  | x :: xs, y :: ys, h => by
    cases x <;> cases y <;> simp only [eqV, reduceCtorEq] at h
    · cases hh : eqV xs ys with
      | none => rw [hh] at h; simp at h
      | some c =>
        rw [hh] at h
        simp only [Option.map_some, Option.some.injEq, Bool.and_eq_true, beq_iff_eq] at h
        obtain ⟨rfl, rfl⟩ := h
        rw [eqV_eq hh]
    · split at h
      · rename_i hk
        cases hh : eqV xs ys with
        | none => rw [hh] at h; simp at h
        | some c =>
          rw [hh] at h
          simp only [Option.map_some, Option.some.injEq, Bool.and_eq_true, beq_iff_eq] at h
          obtain ⟨rfl, rfl⟩ := h
          rw [eqV_eq hh, hk]
      · cases h
    · cases hh : eqV xs ys with
      | none => rw [hh] at h; simp at h
      | some c =>
        rw [hh] at h
        simp only [Option.map_some, Option.some.injEq, Bool.and_eq_true, bytes_beq] at h
        obtain ⟨rfl, rfl⟩ := h
        rw [eqV_eq hh]

theorem eqb_iff {zs K K' : List Value} (h : likeV zs K = true) : eqb K K' = true ↔ K = K' := by
  unfold eqb
  constructor
  · intro e
    cases hh : eqV K K' with
    | none => rw [hh] at e; cases e
    | some c => rw [hh] at e; simp only [Option.getD_some] at e; subst e; exact eqV_eq hh
  · rintro rfl; rw [eqV_self h]; rfl

/-- An entry's value turns. -/
theorem MapOK.put {H : Mem} {zc : List Value} {za : Bool} {val : List Value → D} {has : List Value → Bool} {ps : List (List Value)} {zs : List Value} {ag : Bool} {es : Array MapEntry} {clock : Nat} (M : MapOK H zc za val has ps zs ag es clock)
    (inj : ∀ K K', likeV zs K = true → likeV zs K' = true → mkK ag K = mkK ag K' → K = K') {K : List Value} (hK : likeV zs K = true) {d : D} {v : Value} (hv : RepD H d v) {i : Nat} {e : MapEntry} (he : es[i]? = some e) (hk : e.key = mkK ag K) (f : MapEntry → MapEntry)
    (hf : f e = { e with val := v }) : MapOK H zc za (fun c => bif eqb K c then d else val c) (fun c => eqb K c || has c) ps zs ag (es.modify i f) clock := by
  have hlt := (Array.getElem?_eq_some_iff.1 he).1
  have hget : ∀ {j : Nat} {x : MapEntry}, (es.modify i f)[j]? = some x → (j = i ∧ x = { e with val := v }) ∨ (j ≠ i ∧ es[j]? = some x) := by
    intro j x hx
    rw [Array.getElem?_modify] at hx
    by_cases e' : i = j
    · subst e'
      rw [if_pos rfl, he] at hx
      simp only [Option.map_some, Option.some.injEq] at hx
      exact .inl ⟨rfl, by rw [← hx, hf]⟩
    · rw [if_neg e'] at hx; exact .inr ⟨fun h => e' h.symm, hx⟩
  have key : ∀ {j : Nat} {x : MapEntry}, (es.modify i f)[j]? = some x → ∃ x0, es[j]? = some x0 ∧ x.key = x0.key ∧ x.born = x0.born := by
    intro j x hx
    rcases hget hx with ⟨rfl, rfl⟩ | ⟨_, hx⟩
    · exact ⟨e, he, rfl, rfl⟩
    · exact ⟨x, hx, rfl, rfl⟩
  have old : ∀ {j : Nat} {x : MapEntry}, es[j]? = some x → ∃ x', (es.modify i f)[j]? = some x' ∧ x'.key = x.key := by
    intro j x hx
    by_cases e' : i = j
    · subst e'
      rw [he] at hx; cases hx
      refine ⟨f e, by rw [Array.getElem?_modify, if_pos rfl, he]; rfl, by rw [hf]⟩
    · exact ⟨x, by rw [Array.getElem?_modify, if_neg e']; exact hx, rfl⟩
  refine ⟨fun j x hx => ?_, fun K' hK' => ?_, fun K' hK' => ?_, fun j j' x x' h1 h2 h3 => ?_, fun j x hx => ?_, fun j j' x x' h1 h2 h3 => ?_⟩
  · rcases hget hx with ⟨rfl, rfl⟩ | ⟨hne, hx⟩
    · exact ⟨K, hk, by rw [show eqb K K = true from (eqb_iff hK).2 rfl]; exact hv, fun h => (by rw [show eqb K K = true from (eqb_iff hK).2 rfl] at h; cases h), hK⟩
    · obtain ⟨K', k1, k2, k3, k4⟩ := M.at_ j x hx
      have hne' : eqb K K' = false := by
        cases hh : eqb K K' with
        | false => rfl
        | true =>
          have := (eqb_iff hK).1 hh
          subst this
          exact absurd (M.keys j i x e hx he (by rw [k1, hk])) hne
      exact ⟨K', k1, by rw [hne']; exact k2, fun h => k3 (by rw [hne'] at h; exact h), k4⟩
  · cases hh : eqb K K' with
    | true =>
      have := (eqb_iff hK).1 hh
      subst this
      obtain ⟨x', q1, q2⟩ := old he
      exact ⟨i, x', q1, by rw [q2, hk], hK⟩
    | false =>
      rw [hh] at hK'
      obtain ⟨j, x, q1, q2, q3⟩ := M.all K' hK'
      obtain ⟨x', q4, q5⟩ := old q1
      exact ⟨j, x', q4, by rw [q5, q2], q3⟩
  · simp only [Bool.or_eq_false_iff] at hK'
    rw [hK'.1]
    exact M.zero K' hK'.2
  · obtain ⟨y, q1, q2, _⟩ := key h1
    obtain ⟨y', q3, q4, _⟩ := key h2
    exact M.keys j j' y y' q1 q3 (by rw [← q2, ← q4, h3])
  · obtain ⟨y, q1, _, q2⟩ := key hx
    rw [q2]; exact M.lt j y q1
  · obtain ⟨y, q1, _, q2⟩ := key h1
    obtain ⟨y', q3, _, q4⟩ := key h2
    exact M.born j j' y y' q1 q3 (by rw [← q2, ← q4, h3])

/-- A new entry of a new key. -/
theorem MapOK.putNew {H : Mem} {zc : List Value} {za : Bool} {val : List Value → D} {has : List Value → Bool} {ps : List (List Value)} {zs : List Value} {ag : Bool} {es : Array MapEntry} {clock : Nat} (M : MapOK H zc za val has ps zs ag es clock)
    {K : List Value} (hK : likeV zs K = true) {d : D} {v : Value} (hv : RepD H d v) (hno : ∀ (i : Nat) (e : MapEntry), es[i]? = some e → e.key ≠ mkK ag K) :
    MapOK H zc za (fun c => bif eqb K c then d else val c) (fun c => eqb K c || has c) ps zs ag (es.push { key := mkK ag K, val := v, born := clock }) (clock + 1) := by
  have self : eqb K K = true := (eqb_iff hK).2 rfl
  refine ⟨fun j x hx => ?_, fun K' hK' => ?_, fun K' hK' => ?_, fun i j e e' h1 h2 h3 => ?_, fun j x hx => ?_, fun i j e e' h1 h2 h3 => ?_⟩
  · rcases push_cases hx with ⟨_, rfl⟩ | hx
    · exact ⟨K, rfl, by rw [self]; exact hv, fun h => (by rw [self] at h; cases h), hK⟩
    · obtain ⟨K', k1, k2, k3, k4⟩ := M.at_ j x hx
      have hne' : eqb K K' = false := by
        cases hh : eqb K K' with
        | false => rfl
        | true =>
          have := (eqb_iff hK).1 hh
          subst this
          exact absurd k1 (hno j x hx)
      exact ⟨K', k1, by rw [hne']; exact k2, fun h => k3 (by rw [hne'] at h; exact h), k4⟩
  · cases hh : eqb K K' with
    | true =>
      have := (eqb_iff hK).1 hh
      subst this
      exact ⟨es.size, { key := mkK ag K, val := v, born := clock }, by simp, rfl, hK⟩
    | false =>
      rw [hh] at hK'
      obtain ⟨j, x, q1, q2, q3⟩ := M.all K' hK'
      exact ⟨j, x, push_old q1, q2, q3⟩
  · simp only [Bool.or_eq_false_iff] at hK'
    rw [hK'.1]
    exact M.zero K' hK'.2
  · rcases push_cases h1 with ⟨i1, rfl⟩ | h1 <;> rcases push_cases h2 with ⟨i2, rfl⟩ | h2
    · rw [i1, i2]
    · exact absurd h3.symm (hno j e' h2)
    · exact absurd h3 (hno i e h1)
    · exact M.keys i j e e' h1 h2 h3
  · rcases push_cases hx with ⟨_, rfl⟩ | hx
    · exact Nat.lt_succ_self _
    · exact Nat.lt_succ_of_lt (M.lt j x hx)
  · rcases push_cases h1 with ⟨i1, rfl⟩ | h1 <;> rcases push_cases h2 with ⟨i2, rfl⟩ | h2
    · rw [i1, i2]
    · have := M.lt j e' h2; simp only at h3; omega
    · have := M.lt i e h1; simp only at h3; omega
    · exact M.born i j e e' h1 h2 h3

theorem modify_keeps {es : Array MapEntry} {i : Nat} {e : MapEntry} {f : MapEntry → MapEntry} (he : es[i]? = some e) (h1 : (f e).born = e.born) (h2 : (f e).key = e.key) :
    ∀ (j : Nat) (x : MapEntry), es[j]? = some x → ∃ x', (es.modify i f)[j]? = some x' ∧ x'.born = x.born ∧ x'.key = x.key := fun j x hx => by
  by_cases e' : i = j
  · subst e'
    rw [he] at hx; cases hx
    exact ⟨f e, by rw [Array.getElem?_modify, if_pos rfl, he]; rfl, h1, h2⟩
  · exact ⟨x, by rw [Array.getElem?_modify, if_neg e']; exact hx, rfl, rfl⟩

theorem mkK_inj2 {zs K K' : List Value} {ag ag' : Bool} (h1 : likeV zs K = true) (h2 : likeV zs K' = true) (h3 : ag = false → zs.length = 1) (e : mkK ag K = mkK ag' K') : K = K' := by
  have pl : ∀ {zs K : List Value}, likeV zs K = true → isAgV (K.headD undef) = false := fun {zs K} h => by
    cases K with
    | nil => rfl
    | cons v K =>
      cases zs with
      | nil => simp [likeV] at h
      | cons z zs =>
        have := (likeV_cons h).1
        cases z <;> cases v <;> simp [likeV] at this <;> rfl
  cases ag <;> cases ag'
  · have l1 := likeV_len h1
    have l2 := likeV_len h2
    rw [h3 rfl] at l1 l2
    match K, K', l1, l2, e with
    | [v], [v'], _, _, e => simp [mkK] at e; rw [e]
  · have := pl h1
    simp only [mkK, Bool.false_eq_true, if_false, if_true] at e
    rw [e] at this; cases this
  · have := pl h2
    simp only [mkK, Bool.false_eq_true, if_false, if_true] at e
    rw [← e] at this; cases this
  · simp [mkK] at e; exact e

theorem Rep.sm_inv {H : Mem} {β : Bl} {b : Nat} {v : Value} (h : Rep H β (.sm b) v) : ∃ blk c : Nat, v = .int .i64 c ∧ β b = some (blk, c) := by
  cases h with
  | sm h => exact ⟨_, _, rfl, h⟩

theorem findBorn {es : Array MapEntry} {i : Nat} {e : MapEntry} (he : es[i]? = some e) (hb : ∀ (i j : Nat) (e e' : MapEntry), es[i]? = some e → es[j]? = some e' → e.born = e'.born → i = j) : es.findIdx? (fun x => (x.born : Int) == (e.born : Int)) = some i := by
  obtain ⟨hlt, hei⟩ := Array.getElem?_eq_some_iff.1 he
  rw [Array.findIdx?_eq_some_iff_getElem]
  refine ⟨hlt, by simp [hei], fun j hj => ?_⟩
  simp only [beq_iff_eq, Bool.not_eq_true', beq_eq_false_iff_ne]
  intro h
  have hjlt : j < es.size := by omega
  have := hb j i es[j] e (by simp [hjlt]) he (by exact_mod_cast h)
  omega

theorem run_asInt (k : IntKind) (n : Int) (w : World) : (asInt (.int k n)).run P w = .ok n w := by simp [asInt, asIntOf]

theorem mput_sound (hT : TOK P T) (hQ : EqOK P Q) {E : Ctx} {h h' : List HObj} {g : G} {w : World} {o : Oper} {a : Act} (hW : Wd E h g w) {e : Operand → AV} (he : ∀ x ∈ o.op.operands.toList, Rep g.H g.β (e x) (a.eval x)) (hm : mput T Q h e o.op = some h') :
    ∃ w', (execOp a.eval o).run P w = .ok .skip w' ∧ Wd E h' g w' := by
  unfold mput at hm
  split at hm
  · rename_i t m k x ho
    rw [ho] at he
    have hm1 := he m (by simp [Op.operands])
    have hk1 := he k (by simp [Op.operands])
    have hx1 := he x (by simp [Op.operands])
    split at hm
    · rename_i b hmv
      rw [hmv] at hm1
      split at hm
      · rename_i zc za val has ps zs ag hob
        split at hm
        · rename_i K d hK hd
          cases hb : keyOK T Q t zc za zs ag K with
          | false => rw [hb] at hm; cases hm
          | true =>
            rw [hb, cond_true] at hm
            cases hm
            obtain ⟨kt, el, hu, L, hlk, hz⟩ := keyOK_spec hT hQ hb
            obtain ⟨blk, c, hv, hβ⟩ := hm1.mv_inv
            obtain ⟨es, clock, hw, M⟩ := (hW.obj b _ blk c hob hβ).1
            have hkv := keyC_rep hk1 hK
            have hxd := AV.toD_rep hx1 hd
            obtain ⟨r, hr, hF⟩ := findKey_ok L w hlk es.toList M.keysOf
            rcases look_main M L hlk hF with ⟨i, en, rfl, h1, h2, h3, h4⟩ | ⟨rfl, h1, h2, h3⟩
            · refine ⟨ChangeMaps.setBlock w blk (.map (es.modify i fun y => { y with key := mkK ag K, val := a.eval x }) clock), ?_, hW.setMap hob hβ hw (M.put L.inj hlk hxd h2 h3 _ (by rw [← h3])) (modify_keeps h2 rfl (by rw [← h3]))⟩
              simp only [execOp, ho, hv, hkv, Instr.mapUpdate, Sem.run_bind, run_underlying hu, Result.andThen_ok, MapKept.run_getObj_map hw, L.chk _ K w hlk, hr, h2, Option.map_some, Option.getD_some, h3, keyStays L hlk, MapKept.run_setObj_map _ hw, Sem.run_pure, Sem.run_map]
              rfl
            · refine ⟨ChangeMaps.setBlock w blk (.map (es.push { key := mkK ag K, val := a.eval x, born := clock }) (clock + 1)), ?_, hW.setMap hob hβ hw (M.putNew hlk hxd h3) (fun j y hy => ⟨y, push_old hy, rfl, rfl⟩)⟩
              simp only [execOp, ho, hv, hkv, Instr.mapUpdate, Sem.run_bind, run_underlying hu, Result.andThen_ok, MapKept.run_getObj_map hw, L.chk _ K w hlk, hr, MapKept.run_setObj_map _ hw, Sem.run_pure, Sem.run_map]
              rfl
        · cases hm
      · cases hm
    · cases hm
  · rename_i t m s x ho
    rw [ho] at he
    have hm1 := he m (by simp [Op.operands])
    have hs1 := he s (by simp [Op.operands])
    have hx1 := he x (by simp [Op.operands])
    split at hm
    · rename_i b id hmv hsv
      rw [hmv] at hm1
      rw [hsv] at hs1
      split at hm
      · rename_i zc za val has ps zs ag b' K d hob hen hd
        cases hb : (b' == b && keyOK T Q t zc za zs ag K) with
        | false => rw [hb] at hm; cases hm
        | true =>
          rw [hb, cond_true] at hm
          cases hm
          simp only [Bool.and_eq_true, beq_iff_eq] at hb
          obtain ⟨rfl, hb⟩ := hb
          obtain ⟨kt, el, hu, L, hlk, hz⟩ := keyOK_spec hT hQ hb
          obtain ⟨blk, c, hv, hβ⟩ := hm1.mv_inv
          obtain ⟨blk', c', hsv', hβ'⟩ := hs1.sm_inv
          obtain ⟨es, clock, hw, M⟩ := (hW.obj b' _ blk c hob hβ).1
          obtain ⟨es', clock', cc, i, en, ag', q0, q1, q2, q3, q4⟩ := (hW.obj id _ blk' c' hen hβ').1
          rw [hβ] at q0; cases q0
          rw [hw] at q1; cases q1
          have hxd := AV.toD_rep hx1 hd
          obtain ⟨K', k1, k2, k3, k4⟩ := M.at_ i en q2
          have : K' = K := mkK_inj2 k4 hlk L.one (by rw [← k1, q4])
          subst this
          have hfind := findBorn q2 M.born
          refine ⟨ChangeMaps.setBlock w blk (.map (es.modify i fun y => { y with val := a.eval x }) clock), ?_, hW.setMap hob hβ hw (M.put L.inj hlk hxd q2 k1 _ rfl) (modify_keeps q2 rfl rfl)⟩
          rw [q3] at hfind
          simp only [execOp, ho, hv, hsv', Instr.entryStore, Sem.run_bind, Result.andThen_ok, MapKept.run_getObj_map hw, run_asInt, hfind, MapKept.run_setObj_map _ hw, Sem.run_pure, Sem.run_map]
          rfl
      · cases hm
    · cases hm
  · cases hm
end
end Go.Jo
