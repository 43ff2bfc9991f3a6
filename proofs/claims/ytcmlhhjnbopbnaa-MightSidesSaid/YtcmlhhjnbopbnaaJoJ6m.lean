/- A block turned; a stamp. Over any program. -/
import Derived.Test.YtcmlhhjnbopbnaaJoJ6
namespace Go.Jo
open Go.RowKit
set_option autoImplicit false

/-- Two rows alike but for one block. -/
theorem Wd.setM {E : Ctx} {h : List HObj} {g : G} {w w' : World} (r : Wd E h g w) {b blk c : Nat} {o o' : HObj} (ho : h[b]? = some o) (hβ : g.β b = some (blk, c)) (hwr : o.wr = true)
    (hb : ∀ k, k ≠ blk → w'.heap[k]? = w.heap[k]?) (hs : w'.heap.size = w.heap.size) (hos : w'.os = w.os) (htp : w'.tape = w.tape) (hout : w'.output = w.output)
    (hr : ObjRep g.H g.β w' blk c o') (hgf : o'.gfree = true) (hnd : o ≠ .df)
    (hen : (∃ es clock, w.heap[blk]? = some (.map es clock)) → ∀ x K c', ObjRep g.H g.β w blk c' (.en x K) → ObjRep g.H g.β w' blk c' (.en x K)) : Wd E (h.set b o') g w' where
  imm p x hp := (World.cell?_of_block (hb _ (r.sep b blk c p x hβ hp))).trans (r.imm p x hp)
  obj i oi bi ci hoi hβi := by
    by_cases e : i = b
    · subst e
      rw [hβ] at hβi; cases hβi
      rw [List.getElem?_set_self (List.getElem?_eq_some_iff.1 ho).1] at hoi
      cases hoi
      exact ⟨hr, fun _ => (r.obj i o blk c ho hβ).2 hwr⟩
    · rw [List.getElem?_set_ne (fun e' => e e'.symm)] at hoi
      obtain ⟨h1, h2⟩ := r.obj i oi bi ci hoi hβi
      by_cases e' : bi = blk
      · subst e'
        have hne : o.isEn = false := by cases o <;> first | rfl | cases hwr
        rcases r.inj i b bi ci c hβi hβ with e2 | ⟨x, e2, e3⟩ | ⟨x, e2, e3⟩
        · exact absurd e2 e
        · rw [hoi] at e2; cases e2
          cases oi <;> try (cases e3; done)
          rename_i x K
          obtain ⟨es, clock, cc, q, e, ag, k0, k1, k2⟩ := h1
          exact ⟨hen ⟨es, clock, k1⟩ x K ci ⟨es, clock, cc, q, e, ag, k0, k1, k2⟩, h2⟩
        · rw [ho] at e2; cases e2; rw [hne] at e3; cases e3
      · exact ⟨h1.mono (fun _ _ h => h) (fun _ _ h => h) (hb _ e'), h2⟩
  lt i bi ci hβi := ⟨by rw [List.length_set]; exact (r.lt i bi ci hβi).1, by rw [hs]; exact (r.lt i bi ci hβi).2⟩
  sep := r.sep
  inj i j b' c1 c2 h1 h2 := by
    have hne : o.isEn = false := by cases o <;> first | rfl | cases hwr
    exact (r.inj i j b' c1 c2 h1 h2).imp id (Or.imp (fun k => k.set ho hne) (fun k => k.set ho hne))
  fr := ⟨r.fr.mono, r.fr.new, fun k hk hM => (hb k (fun e => by
      subst e
      rcases (r.obj b o k c ho hβ).2 hwr with h1 | h1
      · omega
      · exact hM h1)).trans (r.fr.frame k hk hM), by rw [hs]; exact r.fr.size, hos.trans r.fr.os, htp.trans r.fr.tape, hout.trans r.fr.output⟩
  gh i xs vs ds hi := by
    have hm : ∀ k : Nat, h[k]? = some HObj.df → (h.set b o')[k]? = some HObj.df := fun k hk => by
      by_cases e : k = b
      · subst e; rw [ho] at hk; cases hk; exact absurd rfl hnd
      · rw [List.getElem?_set_ne (fun e' => e e'.symm)]; exact hk
    by_cases e : i = b
    · subst e
      rw [List.getElem?_set_self (List.getElem?_eq_some_iff.1 ho).1] at hi
      cases hi; cases hgf
    · rw [List.getElem?_set_ne (fun e' => e e'.symm)] at hi
      exact ⟨(r.gh i xs vs ds hi).1, (r.gh i xs vs ds hi).2.mono hm (fun _ _ h => h)⟩

theorem Wd.notMap {E : Ctx} {h : List HObj} {g : G} {w : World} (r : Wd E h g w) {b blk c : Nat} {o : HObj} (ho : h[b]? = some o) (hβ : g.β b = some (blk, c)) (hwr : o.wr = true) (hnd : o ≠ .df) (hmp : o.isMp = false) :
    ∀ (es : Array MapEntry) (clock : Nat), w.heap[blk]? = some (.map es clock) → False := fun es clock hm => by
  have h1 := (r.obj b o blk c ho hβ).1
  cases o with
  | box wr cs t => obtain ⟨vs, k, _⟩ := h1; rw [hm] at k; cases k
  | row k n f t => obtain ⟨vs, k, _⟩ := h1; rw [hm] at k; cases k
  | ghost => cases hwr
  | lp s p L xs => obtain ⟨k, _⟩ := h1; rw [hm] at k; cases k
  | df => exact hnd rfl
  | mp => cases hmp
  | mx => cases hmp
  | it b since seen stepped => obtain ⟨mb, cc, _, k⟩ := h1; rw [hm] at k; cases k
  | en => cases hwr
  | dead => cases hwr

theorem Wd.set {E : Ctx} {h : List HObj} {g : G} {w w' : World} (r : Wd E h g w) {b blk c : Nat} {o o' : HObj} (ho : h[b]? = some o) (hβ : g.β b = some (blk, c)) (hwr : o.wr = true)
    (hb : ∀ k, k ≠ blk → w'.heap[k]? = w.heap[k]?) (hs : w'.heap.size = w.heap.size) (hos : w'.os = w.os) (htp : w'.tape = w.tape) (hout : w'.output = w.output)
    (hr : ObjRep g.H g.β w' blk c o') (hgf : o'.gfree = true) (hnd : o ≠ .df) (hmp : o.isMp = false := by rfl) : Wd E (h.set b o') g w' :=
  r.setM ho hβ hwr hb hs hos htp hout hr hgf hnd (fun ⟨es, clock, hm⟩ => (r.notMap ho hβ hwr hnd hmp es clock hm).elim)


/-- A stamp is taken. -/
theorem Wd.addEn {E : Ctx} {h : List HObj} {g : G} {w : World} (r : Wd E h g w) {id b blk c : Nat} {K : List Value} {ag : Bool} (hid : h[id]? = some (.en b K)) (hno : g.β id = none) (hb : g.β b = some (blk, c)) {es : Array MapEntry} {clock i : Nat} {e : MapEntry}
    (hw : w.heap[blk]? = some (.map es clock)) (he : es[i]? = some e) (hk : e.key = mkK ag K) : Wd E h ⟨g.H, g.β.add id blk e.born⟩ w where
  imm := r.imm
  obj j o b' c' ho hβ := by
    rcases Bl.add_cases hβ with ⟨rfl, e1⟩ | ⟨_, hβ⟩
    · cases e1
      rw [hid] at ho; cases ho
      exact ⟨⟨es, clock, c, i, e, ag, Bl.add_mono hno _ _ hb, hw, he, rfl, hk⟩, fun e => by cases e⟩
    · obtain ⟨h1, h2⟩ := r.obj j o b' c' ho hβ
      exact ⟨h1.mono (fun _ _ h => h) (Bl.add_mono hno) rfl, h2⟩
  lt j b' c' hβ := by
    rcases Bl.add_cases hβ with ⟨rfl, e1⟩ | ⟨_, hβ⟩
    · cases e1; exact ⟨(List.getElem?_eq_some_iff.1 hid).1, (Array.getElem?_eq_some_iff.1 hw).1⟩
    · exact r.lt j b' c' hβ
  sep j b' c' p x hβ hp := by
    rcases Bl.add_cases hβ with ⟨rfl, e1⟩ | ⟨_, hβ⟩
    · cases e1; exact r.sep b blk c p x hb hp
    · exact r.sep j b' c' p x hβ hp
  inj i1 i2 b' c1 c2 h1 h2 := by
    rcases Bl.add_cases h1 with ⟨e1, f1⟩ | ⟨_, h1⟩ <;> rcases Bl.add_cases h2 with ⟨e2, f2⟩ | ⟨_, h2⟩
    · exact .inl (by rw [e1, e2])
    · exact .inr (.inl (by rw [e1]; exact ⟨_, hid, rfl⟩))
    · exact .inr (.inr (by rw [e2]; exact ⟨_, hid, rfl⟩))
    · exact r.inj i1 i2 b' c1 c2 h1 h2
  fr := r.fr
  gh j xs vs ds hi := ⟨fun q x hx => ((r.gh j xs vs ds hi).1 q x hx).mono (fun _ _ h => h) (Bl.add_mono hno), (r.gh j xs vs ds hi).2.mono (fun _ h => h) (Bl.add_mono hno)⟩

theorem setBlock_other {w : World} {b k : Nat} {o : Obj} (h : k ≠ b) : (ChangeMaps.setBlock w b o).heap[k]? = w.heap[k]? := by
  simp [ChangeMaps.setBlock, Ne.symm h]
theorem setBlock_size {w : World} {b : Nat} {o : Obj} : (ChangeMaps.setBlock w b o).heap.size = w.heap.size := by simp [ChangeMaps.setBlock]
theorem setBlock_same {w : World} {b : Nat} {o o' : Obj} (h : w.heap[b]? = some o') : (ChangeMaps.setBlock w b o).heap[b]? = some o := by
  have := (Array.getElem?_eq_some_iff.1 h).1
  simp [ChangeMaps.setBlock, this]

/-- A map's entries turn; what is known of stamps stays. -/
theorem Wd.setMap {E : Ctx} {h : List HObj} {g : G} {w : World} (r : Wd E h g w) {b blk c : Nat} {zc zc' : List Value} {za za' : Bool} {val val' : List Value → D} {has has' : List Value → Bool} {ps ps' : List (List Value)} {zs zs' : List Value} {ag ag' : Bool}
    (ho : h[b]? = some (.mp zc za val has ps zs ag)) (hβ : g.β b = some (blk, c)) {es es' : Array MapEntry} {clock clock' : Nat} (hw : w.heap[blk]? = some (.map es clock)) (M : MapOK g.H zc' za' val' has' ps' zs' ag' es' clock')
    (hst : ∀ (j : Nat) (x : MapEntry), es[j]? = some x → ∃ x', es'[j]? = some x' ∧ x'.born = x.born ∧ x'.key = x.key) :
    Wd E (h.set b (.mp zc' za' val' has' ps' zs' ag')) g (ChangeMaps.setBlock w blk (.map es' clock')) :=
  r.setM (o' := .mp zc' za' val' has' ps' zs' ag') ho hβ rfl (fun k hk => setBlock_other hk) setBlock_size rfl rfl rfl ⟨es', clock', setBlock_same hw, M⟩ rfl (fun e => by cases e) (fun _ x K c' h1 => by
    obtain ⟨es0, clock0, cc, i, e, ag0, k0, k1, k2, k3, k4⟩ := h1
    rw [hw] at k1; cases k1
    obtain ⟨e', q1, q2, q3⟩ := hst i e k2
    exact ⟨es', clock', cc, i, e', ag0, k0, setBlock_same hw, q1, by rw [q2, k3], by rw [q3, k4]⟩)
end Go.Jo
