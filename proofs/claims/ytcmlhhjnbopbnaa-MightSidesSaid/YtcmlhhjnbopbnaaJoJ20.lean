/- Small words for printed walks, of calls walked inline, of rounds. Over any program. -/
import Derived.Test.YtcmlhhjnbopbnaaJoJ19
namespace Go.Jo
open Go.RowKit
set_option autoImplicit false
section
variable {P : Program} {c : Cfg} {nr : Bool} {K : St → Prop} {s : St}

theorem Conv.to_opt {q : Bool} {x y : AV} (h : q = true) (k : Conv x y) : Conv x (.opt q y) := fun H β v r => .opt (fun _ => k H β v r) (fun e => by rw [h] at e; cases e)

theorem OpS.mono {o : Oper} {st : St} {K K' : St → Prop} (h : OpS P o st K) (hk : ∀ s, K s → K' s) : OpS P o st K' := fun rd E g a w next Q hr hn => h rd E g a w next Q hr (fun st' g' a' w' h1 h2 => hn st' g' a' w' (hk _ h1) h2)

theorem ROps.app (hc : c.OK P) {ops : Array Oper} (hs : okStore ops.toList = true) {l rest : List Oper} {st st' : St} (h : aops c P ops l st (fun s => s = st')) (hK : ROps P ops rest st' K) : ROps P ops (l ++ rest) st K := by
  intro rd E g a w k Q hd hr hQ
  refine aops_pre (rd := rd) hc hs (Q := Q) (rest := rest) l k st g a w hd hr h (fun s1 g1 a1 w1 k1 k2 => ?_)
  subst k1
  exact hK rd E g1 a1 w1 _ Q (by rw [← List.drop_drop, hd]; simp) k2 hQ

/-- All ends of one operation meet in one state. -/
theorem ROps.oneJ {ops : Array Oper} {o : Oper} {rest : List Oper} {st : St} (S : St) (hg : o.guard = none) (h : OpS P o st (fun s => s.le S)) (hK : ROps P ops rest S K) : ROps P ops (o :: rest) st K :=
  ROps.one hg (h.mono (fun _ hs => ROps.le hs hK))

theorem ROps.oneGJ {ops : Array Oper} {o : Oper} {rest : List Oper} {st : St} (S : St) (j : Nat) (want gg : Bool) (x : AV) (hg : o.guard = some (j, want)) (hj : gof st.σ ops j want = some gg) (h : gg = true → OpS P o st (fun s => s.le S))
    (h0 : gg = false → (⟨putS st.σ o.dst (.opt gg x), st.h⟩ : St).le S) (hK : ROps P ops rest S K) : ROps P ops (o :: rest) st K :=
  ROps.oneG x hg hj (fun e => (h e).mono (fun _ hs => ROps.le hs hK)) (fun e => ROps.le (h0 e) hK)

/-! ### results, cells too -/
def eres (c : Cfg) (st : St) : List ResultVar → Option (Prop × List AV)
  | [] => some (True, [])
  | .tmp t :: l =>
    match eres c st l with
    | some (p, rs) => some (p, st.σ.getD t .junk :: rs)
    | none => none
  | .cell a t :: l =>
    match c.T t with
    | some ti =>
      match ald ti st.h (st.σ.getD a .junk), eres c st l with
      | .val p r, some (q, rs) => some (p ∧ q, r :: rs)
      | _, _ => none
    | none => none

theorem eres_sound : ∀ {l : List ResultVar} {p : Prop} {rs : List AV} {K : List AV → Prop}, eres c s l = some (p, rs) → p → K rs → ares c s l K
  | [], p, rs, K, h, hp, hK => by simp only [eres, Option.some.injEq, Prod.mk.injEq] at h; obtain ⟨_, rfl⟩ := h; exact hK
  | .tmp t :: l, p, rs, K, h, hp, hK => by
    simp only [eres] at h
    split at h
    · rename_i q rs' h1
      simp only [Option.some.injEq, Prod.mk.injEq] at h
      obtain ⟨rfl, rfl⟩ := h
      exact eres_sound (l := l) h1 hp hK
    · cases h
  | .cell a t :: l, p, rs, K, h, hp, hK => by
    simp only [eres] at h
    unfold ares
    split at h
    · rename_i ti hti
      split at h
      · rename_i p' r q rs' h1 h2
        simp only [Option.some.injEq, Prod.mk.injEq] at h
        obtain ⟨rfl, rfl⟩ := h
        simp only [hti, h1]
        exact ⟨hp.1, eres_sound (l := l) (K := fun rs => K (r :: rs)) h2 hp.2 hK⟩
      · cases h
    · cases h

theorem aend_re {res : List ResultVar} {r : D} {p : Prop} (rs : List AV) (hl : eres c s res = some (p, rs)) (hp : p) (d : D) (hd : frzR s.h rs = some d) (hg : s.h.all HObj.gfree = true) (h : DEq d r) : aend c res r .ret s := eres_sound hl hp ⟨d, ⟨hd, hg⟩, h⟩
theorem aend_ne {res : List ResultVar} {r : D} {p : Prop} (rs : List AV) (hl : eres c s res = some (p, rs)) (hp : p) (d : D) (hd : frzR s.h rs = some d) (hg : s.h.all HObj.gfree = true) (h : DEq d r) : aend c res r .normal s := eres_sound hl hp ⟨d, ⟨hd, hg⟩, h⟩

/-! ### ends -/
section ends
variable {res : List ResultVar} {n m b : Nat} {vs : Array Value} {ds : List Deferred} {dst : Option Tmp} {L : Loop}

theorem cend_r {p : Prop} (rs σ' : List AV) (st' : St) (hl : eres c s res = some (p, rs)) (hp : p) (hm : s.h[m]? = some (.ghost σ' vs ds)) (hn : σ'.length = n) (he : (⟨putS σ' dst (packA rs), s.h.set m .dead⟩ : St) = st') (hK : K st') : cend c res n m vs ds dst K .ret s :=
  eres_sound hl hp ⟨σ', ⟨hm, hn⟩, by rw [he]; exact hK⟩
theorem cend_n {p : Prop} (rs σ' : List AV) (st' : St) (hl : eres c s res = some (p, rs)) (hp : p) (hm : s.h[m]? = some (.ghost σ' vs ds)) (hn : σ'.length = n) (he : (⟨putS σ' dst (packA rs), s.h.set m .dead⟩ : St) = st') (hK : K st') : cend c res n m vs ds dst K .normal s :=
  eres_sound hl hp ⟨σ', ⟨hm, hn⟩, by rw [he]; exact hK⟩

theorem ymid_n {bd : Code} {p : Option Code} (σ1 σ' : List AV) (st' : St) (hb : s.h[b]? = some (.lp .ready p L σ1)) (hm : s.h[m]? = some (.ghost (.yl b :: σ') vs ds)) (he : (⟨s.σ, s.h.set b (.lp .busy p L σ1)⟩ : St) = st') (hA : AC c P false bd st' (yend n m b L vs ds dst K)) :
    ymid c P n m b L bd vs ds dst K .normal s := ⟨p, σ1, σ', ⟨hb, hm⟩, by rw [he]; exact hA⟩

theorem yend_n {p : Option Code} (σ1 σ' : List AV) (st' : St) (hb : s.h[b]? = some (.lp .busy p L σ1)) (hm : s.h[m]? = some (.ghost (.yl b :: σ') vs ds)) (hn : σ'.length = n) (he : (⟨putS σ' dst (.d (.v (.bool true))), (s.h.set b (.lp .ready none L σ1)).set m .dead⟩ : St) = st') (hK : K st') :
    yend n m b L vs ds dst K .normal s := ⟨p, σ1, σ', ⟨hb, hm, hn⟩, by rw [he]; exact hK⟩
theorem yend_r {p : Option Code} (σ1 σ' : List AV) (st' : St) (hb : s.h[b]? = some (.lp .busy p L σ1)) (hm : s.h[m]? = some (.ghost (.yl b :: σ') vs ds)) (hn : σ'.length = n) (he : (⟨putS σ' dst (.d (.v (.bool false))), (s.h.set b (.lp .done (some .ret) L σ1)).set m .dead⟩ : St) = st') (hK : K st') :
    yend n m b L vs ds dst K .ret s := ⟨p, σ1, σ', ⟨hb, hm, hn⟩, by rw [he]; exact hK⟩
theorem yend_x {i : Nat} {p : Option Code} (σ1 σ' : List AV) (st' : St) (hb : s.h[b]? = some (.lp .busy p L σ1)) (hm : s.h[m]? = some (.ghost (.yl b :: σ') vs ds)) (hn : σ'.length = n) (he : (⟨putS σ' dst (.d (.v (.bool false))), (s.h.set b (.lp .done (some (.exit i)) L σ1)).set m .dead⟩ : St) = st') (hK : K st') :
    yend n m b L vs ds dst K (.exit i) s := ⟨p, σ1, σ', ⟨hb, hm, hn⟩, by show K _; rw [he]; exact hK⟩

theorem rend_n {p : Prop} {e : Exit} {K : Exit → St → Prop} (he0 : e = .normal ∨ e = .ret) (rs : List AV) (st0 : LoopState) (σ' : List AV) (st' : St) (hl : eres c s res = some (p, rs)) (hp : p) (hb : s.h[m + 1]? = some (.lp st0 none L σ')) (h0 : st0 ≠ .busy) (hm : s.h[m + 2]? = some (.ghost [.yl (m + 1)] vs ds)) (hn : σ'.length = n)
    (he : (⟨σ', (s.h.set (m + 1) .dead).set (m + 2) .dead⟩ : St) = st') (hK : K .normal st') : rend c P res n m L vs ds K e s :=
  ⟨he0, eres_sound hl hp ⟨st0, none, σ', ⟨hb, h0, hm, hn⟩, by show K .normal _; rw [he]; exact hK⟩⟩
theorem rend_j {p : Prop} {e : Exit} {K : Exit → St → Prop} (he0 : e = .normal ∨ e = .ret) (rs : List AV) (st0 : LoopState) (j : Code) (σ' : List AV) (st' : St) (hl : eres c s res = some (p, rs)) (hp : p) (hb : s.h[m + 1]? = some (.lp st0 (some j) L σ')) (h0 : st0 ≠ .busy) (hm : s.h[m + 2]? = some (.ghost [.yl (m + 1)] vs ds)) (hn : σ'.length = n)
    (he : (⟨σ', (s.h.set (m + 1) .dead).set (m + 2) .dead⟩ : St) = st') (hK : AC c P true j st' K) : rend c P res n m L vs ds K e s :=
  ⟨he0, eres_sound hl hp ⟨st0, some j, σ', ⟨hb, h0, hm, hn⟩, by show AC c P true j _ K; rw [he]; exact hK⟩⟩
end ends
end
end Go.Jo
