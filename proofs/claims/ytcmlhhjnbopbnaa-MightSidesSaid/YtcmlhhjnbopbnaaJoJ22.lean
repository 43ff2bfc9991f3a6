/- A region's operations run by the kernel: guards by their slots; what is owed alone is asked. Over any program. -/
import Derived.Test.YtcmlhhjnbopbnaaJoJ20
namespace Go.Jo
open Go.RowKit
set_option autoImplicit false

def AllP : List Prop → Prop
  | [] => True
  | p :: l => p ∧ AllP l

theorem AllP_app : ∀ {l m : List Prop}, AllP (l ++ m) → AllP l ∧ AllP m
  | [], _, h => ⟨trivial, h⟩
  | _ :: _, _, h => ⟨⟨h.1, (AllP_app h.2).1⟩, (AllP_app h.2).2⟩

/-- What is owed by an operation: nothing; a closed fact; all that it asks. -/
inductive Ow where
  | no
  | chk (b : Bool)
  | all

def litOf : Operand → Option Int
  | .const (.int _ n) => some n
  | _ => none

def owesB (e : Operand → AV) (op : BinOp) (x y : Operand) : Ow :=
  match op with
  | .quo | .rem => match litOf y with | some n => .chk (n != 0) | none => .all
  | .shl | .shr => match litOf y with | some n => .chk (decide (0 ≤ n)) | none => .all
  | .add => match e x with | .d (.v (.string _)) => .all | _ => .no
  | _ => .no

def owes (T : Nat → Option TI) (h : List HObj) (e : Operand → AV) : Op → Ow
  | .move _ | .assign _ | .fieldAddr _ _ _ | .unOp _ _ _ | .convert _ _ _ | .makeInterface _ _ | .makeFunc _ _ _ | .extract _ _ => .no
  | .load t a =>
    match T t with
    | some ti =>
      match e a with
      | .rp cs => .chk (!ti.ag || decide (ti.size ≤ cs.length))
      | .bp b off =>
        match h[b]? with
        | some (.box _ cs _) => .chk (!ti.ag || decide (off + ti.size ≤ cs.length))
        | _ => .all
      | _ => .all
    | none => .all
  | .field s x f =>
    match T s with
    | some ti =>
      match ti.flds[f]?, e x with
      | some (o, sz, _, _), .d (.ag ds) => .chk (decide (o + sz ≤ ds.length))
      | some (o, sz, _, _), .ag cs => .chk (decide (o + sz ≤ cs.length))
      | _, _ => .all
    | none => .all
  | .indexAddr t _ i | .index t _ i =>
    match litOf i, T t with
    | some n, some ti =>
      match ti.tk with
      | .array len _ => bif ti.eag then .all else .chk (decide (0 ≤ n) && decide (n < (len : Int)))
      | _ => .all
    | _, _ => .all
  | .build t _ =>
    match T t with
    | some ti => .chk (ti.flds.all fun f => f.2.1 != 0)
    | none => .all
  | .binOp op _ x y _ => owesB e op x y
  | .lookup _ _ _ _ => .no
  | .call { callee := .builtin _, .. } => .no
  | _ => .all

def Ow.ok (o : Ow) (p : Prop) : Prop :=
  match o with
  | .no => p
  | .chk b => b = true → p
  | .all => True

section
variable {T : Nat → Option TI} {Q O : Nat → Bool} {h : List HObj} {e : Operand → AV}

theorem alook_cases {t : Nat} {m k : AV} {ok : Bool} : alook T Q h t m k ok = .bad ∨ ∃ r, alook T Q h t m k ok = .val True r := by
  unfold alook
  split
  · split
    · split
      · cases keyOK T Q t _ _ _ _ _ with
        | false => exact .inl rfl
        | true =>
          cases ok with
          | true => rw [cond_true, cond_true]; split; exact .inr ⟨_, rfl⟩; exact .inl rfl
          | false => exact .inr ⟨_, rfl⟩
      · exact .inl rfl
    · exact .inl rfl
  · exact .inl rfl

theorem aent_cases {t : Nat} {m k : AV} : aent T Q h t m k = .bad ∨ ∃ p d b K ob, aent T Q h t m k = .ent p d b K ob := by
  unfold aent
  split
  · split
    · split
      · cases keyOK T Q t _ _ _ _ _ with
        | false => exact .inl rfl
        | true => exact .inr ⟨_, _, _, _, _, rfl⟩
      · exact .inl rfl
    · exact .inl rfl
  · exact .inl rfl

theorem amake_cases {t : Nat} : amake T t = .bad ∨ ∃ el te z zs ag, T el = some te ∧ zD te = some z ∧ amake T t = .mk z te.zero te.ag zs ag := by
  unfold amake
  split
  · split
    · split
      · rename_i hte
        split
        · rename_i hz; exact .inr ⟨_, _, _, _, _, hte, hz, rfl⟩
        · exact .inl rfl
      · exact .inl rfl
    · exact .inl rfl
  · exact .inl rfl

theorem litOf_e (he : ∀ v, e (.const v) = cav v) {y : Operand} {n : Int} (hy : litOf y = some n) : ∃ k, e y = .d (.v (.int k n)) := by
  unfold litOf at hy
  split at hy
  · rename_i k m
    simp only [Option.some.injEq] at hy; subst hy
    exact ⟨k, he _⟩
  · cases hy

theorem iop_owes {op : BinOp} {k : IntKind} {a b : Int} {p : Prop} {r : AV} (h : iop op k a b = .val p r) (hn : (op = .quo ∨ op = .rem) → b ≠ 0) : p := by
  cases op <;> simp only [iop, Out.val.injEq, reduceCtorEq] at h <;> (obtain ⟨rfl, _⟩ := h; first | trivial | exact hn (by simp))

theorem bop_owes (he : ∀ v, e (.const v) = cav v) {t : Nat} {op : BinOp} {x y : Operand} {p : Prop} {r : AV} (h : bop T Q t op (e x) (e y) = .val p r) : (owesB e op x y).ok p := by
  unfold bop at h
  split at h
  · rename_i k a k' b hx hy
    have lit : ∀ n, litOf y = some n → n = b := fun n hn => by
      obtain ⟨k2, h2⟩ := litOf_e he hn
      rw [hy] at h2; cases h2; rfl
    have nolit : op ≠ .quo → op ≠ .rem → op ≠ .shl → op ≠ .shr → p → (owesB e op x y).ok p := by
      intro h1 h2 h3 h4 hp
      unfold owesB
      cases op <;> first | contradiction | exact hp | (simp only [hx]; exact hp)
    cases op with
    | shl =>
      simp only [Out.val.injEq] at h; obtain ⟨rfl, _⟩ := h
      simp only [owesB]
      cases hl : litOf y with
      | none => trivial
      | some n => have := lit n hl; subst this; intro hd; simpa using hd
    | shr =>
      simp only [Out.val.injEq] at h; obtain ⟨rfl, _⟩ := h
      simp only [owesB]
      cases hl : litOf y with
      | none => trivial
      | some n => have := lit n hl; subst this; intro hd; simpa using hd
    | quo =>
      simp only at h
      split at h
      · simp only [iop, Out.val.injEq] at h; obtain ⟨rfl, _⟩ := h
        simp only [owesB]
        cases hl : litOf y with
        | none => trivial
        | some n => have := lit n hl; subst this; intro hd; simpa using hd
      · cases h
    | rem =>
      simp only at h
      split at h
      · simp only [iop, Out.val.injEq] at h; obtain ⟨rfl, _⟩ := h
        simp only [owesB]
        cases hl : litOf y with
        | none => trivial
        | some n => have := lit n hl; subst this; intro hd; simpa using hd
      · cases h
    | _ =>
      simp only at h
      split at h
      · exact nolit (by decide) (by decide) (by decide) (by decide) (iop_owes h (fun e => by simp at e))
      · cases h
  · rename_i a b hx hy
    cases op <;> simp only [sop, Out.val.injEq, reduceCtorEq] at h <;> (obtain ⟨rfl, _⟩ := h; simp only [owesB, hx, Ow.ok])
  · split at h
    · split at h
      · cases op <;> simp only [Out.val.injEq, reduceCtorEq] at h <;> (obtain ⟨rfl, _⟩ := h; simp only [owesB, Ow.ok])
      · cases h
    · cases h
  · split at h
    · split at h
      · cases op <;> simp only [Out.val.injEq, reduceCtorEq] at h <;> (obtain ⟨rfl, _⟩ := h; simp only [owesB, Ow.ok])
      · cases h
    · cases h
  · cases h

theorem amove_p {n : Nat} {x : AV} {p : Prop} {r : AV} (h : amove n x = .val p r) : p := by
  unfold amove at h
  split at h <;> simp only [Out.val.injEq, reduceCtorEq] at h <;> (obtain ⟨rfl, _⟩ := h; trivial)

theorem aun_p {op : UnOp} {x : AV} {p : Prop} {r : AV} (h : aun op x = .val p r) : p := by
  unfold aun at h
  split at h <;> simp only [Out.val.injEq, reduceCtorEq] at h <;> (obtain ⟨rfl, _⟩ := h; trivial)

theorem aconv_p {a b : Option TI} {x : AV} {p : Prop} {r : AV} (h : aconv a b x = .val p r) : p := by
  unfold aconv at h
  repeat' (first | (cases h; done) | (cases h; exact trivial) | split at h)

theorem amki_p {t : Nat} {a : Option TI} {x : AV} {p : Prop} {r : AV} (h : amki t a x = .val p r) : p := by
  unfold amki at h
  repeat' (first | (cases h; done) | (cases h; exact trivial) | split at h)

theorem aextr_p {i : Nat} {x : AV} {p : Prop} {r : AV} (h : aextr i x = .val p r) : p := by
  unfold aextr at h
  repeat' (first | (cases h; done) | (cases h; exact trivial) | split at h)

theorem abuiltin_p {b : Builtin} {a : Option TI} {xs : List AV} {p : Prop} {r : AV} (h : abuiltin b a xs = .val p r) : p := by
  unfold abuiltin at h
  repeat' (first | (cases h; done) | (cases h; exact trivial) | split at h)

theorem apart_p {ag : Bool} {sz off : Nat} {x : AV} {p : Prop} {r : AV} (h : apart ag sz off x = .val p r)
    (h1 : ∀ ds, x = .d (.ag ds) → off + sz ≤ ds.length) (h2 : ∀ cs, x = .ag cs → off + sz ≤ cs.length) : p := by
  unfold apart at h
  split at h
  · split at h
    · simp only [Out.val.injEq] at h; obtain ⟨rfl, _⟩ := h; exact h1 _ rfl
    · split at h <;> simp only [Out.val.injEq, reduceCtorEq] at h; obtain ⟨rfl, _⟩ := h; trivial
  · split at h
    · simp only [Out.val.injEq] at h; obtain ⟨rfl, _⟩ := h; exact h2 _ rfl
    · split at h <;> simp only [Out.val.injEq, reduceCtorEq] at h; obtain ⟨rfl, _⟩ := h; trivial
  · cases h

theorem apart_p0 {sz off : Nat} {x : AV} {p : Prop} {r : AV} (h : apart false sz off x = .val p r) : p := by
  unfold apart at h
  split at h
  · simp only [Bool.false_eq_true, if_false] at h
    split at h <;> simp only [Out.val.injEq, reduceCtorEq] at h; obtain ⟨rfl, _⟩ := h; trivial
  · simp only [Bool.false_eq_true, if_false] at h
    split at h <;> simp only [Out.val.injEq, reduceCtorEq] at h; obtain ⟨rfl, _⟩ := h; trivial
  · cases h

theorem owes_ok (he : ∀ v, e (.const v) = cav v) {op : Op} {p : Prop} {r : AV} (hp : pop T Q O h e op = .val p r) : (owes T h e op).ok p := by
  unfold pop at hp
  split at hp
  · cases hp; trivial
  · cases hp; trivial
  · split at hp <;> cases hp
  · split at hp <;> cases hp
  · -- load
    rename_i t a
    simp only [owes]
    split at hp
    · rename_i ti hti
      rw [hti]; dsimp only
      unfold ald at hp
      split at hp
      · rename_i cs hcs
        rw [hcs]; dsimp only
        intro hb
        split at hp
        · rename_i hag; cases hp; simpa [hag] using hb
        · split at hp
          · cases hp; trivial
          · cases hp
      · rename_i b off hcs
        rw [hcs]; dsimp only
        split at hp
        · rename_i w cs t' hob
          rw [hob]; dsimp only
          intro hb
          split at hp
          · rename_i hag; cases hp; simpa [hag] using hb
          · split at hp
            · cases hp; trivial
            · cases hp
        · cases hp
      · rename_i b k i off hcs
        rw [hcs]; trivial
      · cases hp
    · cases hp
  · -- fieldAddr
    split at hp
    · split at hp
      · split at hp
        · cases hp
        · exact amove_p hp
      · cases hp
    · cases hp
  · -- field
    rename_i s x f
    simp only [owes]
    split at hp
    · rename_i ti hti
      rw [hti]; dsimp only
      split at hp
      · rename_i o sz ag pl htk hf
        rw [hf]
        split at hp
        · cases hp
        · generalize hx : e x = X at hp
          cases X with
          | d D =>
            cases D with
            | ag ds => intro hb; exact apart_p hp (fun ds' e => by cases e; simpa using hb) (fun cs e => by cases e)
            | _ => trivial
          | ag cs => intro hb; exact apart_p hp (fun ds' e => by cases e) (fun cs e => by cases e; simpa using hb)
          | _ => trivial
      · cases hp
    · cases hp
  · -- indexAddr
    rename_i t x i
    simp only [owes]
    cases hl : litOf i with
    | none => trivial
    | some n =>
      obtain ⟨k, hk⟩ := litOf_e he hl
      split at hp
      · rename_i ti hti
        rw [hti]; dsimp only
        rw [hk] at hp
        unfold aidx at hp
        dsimp only at hp
        split at hp
        · rename_i htk; rw [htk]; trivial
        · rename_i len el htk
          rw [htk]; dsimp only
          split at hp
          · cases hp
          · split at hp
            · cases hp
              cases ti.eag with
              | true => trivial
              | false => intro hb; simpa using hb
            · cases hp
        · cases hp
      · cases hp
  · -- index
    rename_i t x i
    simp only [owes]
    cases hl : litOf i with
    | none => trivial
    | some n =>
      obtain ⟨k, hk⟩ := litOf_e he hl
      split at hp
      · rename_i ti hti
        rw [hti]; dsimp only
        rw [hk] at hp
        unfold aindex at hp
        dsimp only at hp
        split at hp
        · rename_i htk; rw [htk]; trivial
        · rename_i len el htk
          rw [htk]; dsimp only
          split at hp
          · cases hp
          · split at hp
            · rename_i pp rr hap
              cases hp
              cases hea : ti.eag with
              | true => trivial
              | false => intro hb; rw [hea] at hap; exact ⟨apart_p0 hap, by simpa using hb⟩
            · cases hp
        · cases hp
      · cases hp
  · trivial
  · exact bop_owes he hp
  · exact aun_p hp
  · exact aconv_p hp
  · exact amki_p hp
  · cases hp; trivial
  · exact aextr_p hp
  · -- build
    rename_i t parts
    simp only [owes]
    split at hp
    · rename_i ti hti
      rw [hti]; dsimp only
      intro hb
      unfold abuild at hp
      split at hp
      · split at hp
        · cases hp
          intro f hf
          have := (List.all_eq_true.1 hb) f hf
          simpa using this
        · cases hp
      · split at hp
        · cases hp
        · split at hp
          · cases hp; trivial
          · cases hp
      · cases hp
    · cases hp
  · trivial
  · trivial
  · -- makeMap
    rcases amake_cases (T := T) with e1 | ⟨_, _, _, _, _, _, _, e1⟩ <;> (rw [e1] at hp; cases hp)
  · -- lookup
    show p
    rcases alook_cases (T := T) (Q := Q) (h := h) with e1 | ⟨_, e1⟩ <;> rw [e1] at hp <;> cases hp
    trivial
  · trivial
  · -- call
    rename_i cl
    split at hp
    · rename_i b hb
      cases cl
      simp only at hb
      subst hb
      exact abuiltin_p hp
    · split at hp <;> cases hp
    · cases hp
  · cases hp

theorem pop_box {op : Op} {p : Prop} {cs : List AV} {t : Nat} (hp : pop T Q O h e op = .box p cs t) : p := by
  unfold pop at hp
  split at hp
  all_goals first | (cases hp; done) | skip
  all_goals repeat' (first | (cases hp; done) | (cases hp; exact trivial) | split at hp)
  all_goals first
    | (unfold ald at hp; repeat' (first | (cases hp; done) | split at hp))
    | (unfold amove at hp; repeat' (first | (cases hp; done) | split at hp))
    | (unfold apart at hp; repeat' (first | (cases hp; done) | split at hp))
    | (unfold aidx amove at hp; repeat' (first | (cases hp; done) | split at hp))
    | (unfold aindex apart at hp; repeat' (first | (cases hp; done) | split at hp))
    | (unfold aslice at hp; repeat' (first | (cases hp; done) | split at hp))
    | (unfold bop iop sop at hp; repeat' (first | (cases hp; done) | split at hp))
    | (unfold aun at hp; repeat' (first | (cases hp; done) | split at hp))
    | (unfold aconv at hp; repeat' (first | (cases hp; done) | split at hp))
    | (unfold amki at hp; repeat' (first | (cases hp; done) | split at hp))
    | (unfold aextr at hp; repeat' (first | (cases hp; done) | split at hp))
    | (unfold abuild at hp; repeat' (first | (cases hp; done) | split at hp))
    | (unfold abuildSlice at hp; repeat' (first | (cases hp; done) | split at hp))
    | (unfold amakeSlice at hp; repeat' (first | (cases hp; done) | split at hp))
    | (unfold abuiltin at hp; repeat' (first | (cases hp; done) | split at hp))
    | (rcases amake_cases (T := T) with e1 | ⟨_, _, _, _, _, _, _, e1⟩ <;> (rw [e1] at hp; cases hp))
    | (rcases alook_cases (T := T) (Q := Q) (h := h) with e1 | ⟨_, e1⟩ <;> (rw [e1] at hp; cases hp))
    | (rcases aent_cases (T := T) (Q := Q) (h := h) with e1 | ⟨_, _, _, _, _, e1⟩ <;> (rw [e1] at hp; cases hp))

theorem zD_rep {P : Program} (hT : TOK P T) {el : Nat} {te : TI} (hte : T el = some te) {z : D} (hz : zD te = some z) (H : Mem) : RepD H z (mkK te.ag te.zero) := by
  obtain ⟨info, d, v, hi, hu, hzv, _, _, _, hag, hzero, hone, _⟩ := tiOf_spec (hT _ _ hte)
  unfold zD at hz
  cases ha : te.ag with
  | true =>
    rw [ha, cond_true] at hz
    cases hz
    simp only [mkK, if_true]
    exact repAg hone
  | false =>
    rw [ha, cond_false] at hz
    split at hz
    · rename_i x hx
      cases hz
      rw [hx]
      exact .v (hone x (by rw [hx]; simp))
    · cases hz

theorem pop_mk {P : Program} (hT : TOK P T) {op : Op} {z : D} {zc : List Value} {za : Bool} {zs : List Value} {ag : Bool} (hp : pop T Q O h e op = .mk z zc za zs ag) (H : Mem) : RepD H z (mkK za zc) := by
  have key : ∀ {t : Nat}, amake T t = .mk z zc za zs ag → RepD H z (mkK za zc) := fun {t} hp => by
    rcases amake_cases (T := T) (t := t) with e1 | ⟨el, te, z', zs', ag', h1, h2, e1⟩
    · rw [e1] at hp; cases hp
    · rw [e1] at hp; cases hp; exact zD_rep hT h1 h2 H
  unfold pop at hp
  split at hp
  all_goals first | (cases hp; done) | skip
  all_goals repeat' (first | (cases hp; done) | split at hp)
  all_goals first
    | exact key hp
    | (unfold ald at hp; repeat' (first | (cases hp; done) | split at hp))
    | (unfold amove at hp; repeat' (first | (cases hp; done) | split at hp))
    | (unfold apart at hp; repeat' (first | (cases hp; done) | split at hp))
    | (unfold aidx amove at hp; repeat' (first | (cases hp; done) | split at hp))
    | (unfold aindex apart at hp; repeat' (first | (cases hp; done) | split at hp))
    | (unfold aslice at hp; repeat' (first | (cases hp; done) | split at hp))
    | (unfold bop iop sop at hp; repeat' (first | (cases hp; done) | split at hp))
    | (unfold aun at hp; repeat' (first | (cases hp; done) | split at hp))
    | (unfold aconv at hp; repeat' (first | (cases hp; done) | split at hp))
    | (unfold amki at hp; repeat' (first | (cases hp; done) | split at hp))
    | (unfold aextr at hp; repeat' (first | (cases hp; done) | split at hp))
    | (unfold abuild at hp; repeat' (first | (cases hp; done) | split at hp))
    | (unfold abuildSlice at hp; repeat' (first | (cases hp; done) | split at hp))
    | (unfold amakeSlice at hp; repeat' (first | (cases hp; done) | split at hp))
    | (unfold abuiltin at hp; repeat' (first | (cases hp; done) | split at hp))
    | (rcases alook_cases (T := T) (Q := Q) (h := h) with e1 | ⟨_, e1⟩ <;> (rw [e1] at hp; cases hp))
    | (rcases aent_cases (T := T) (Q := Q) (h := h) with e1 | ⟨_, _, _, _, _, e1⟩ <;> (rw [e1] at hp; cases hp))
end
end Go.Jo
