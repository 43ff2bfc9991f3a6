/- An append to a row of one's own. Over any program. -/
import Derived.Test.YtcmlhhjnbopbnaaJoJ9
import Derived.Laws.AppendOwnNone
namespace Go.Jo
open Go.RowKit
set_option autoImplicit false
section
variable {P : Program} {c : Cfg}

/-- The cells of elements, one behind the other. -/
def flatV (k n : Nat) (val : Nat → Nat → Value) : List Value := (List.range (n * k)).map fun q => val (q / k) (q % k)

theorem flatV_length (k n : Nat) (val : Nat → Nat → Value) : (flatV k n val).length = n * k := by simp [flatV]

theorem divmod_at {k i j : Nat} (hj : j < k) : (i * k + j) / k = i ∧ (i * k + j) % k = j := by
  have hk : 0 < k := by omega
  constructor
  · rw [Nat.mul_comm, Nat.mul_add_div hk, Nat.div_eq_of_lt hj, Nat.add_zero]
  · rw [Nat.mul_comm, Nat.mul_add_mod, Nat.mod_eq_of_lt hj]

theorem lt_mul {k n i j : Nat} (hi : i < n) (hj : j < k) : i * k + j < n * k := by
  have h4 : (i + 1) * k ≤ n * k := Nat.mul_le_mul_right _ hi
  rw [Nat.add_mul] at h4; omega

theorem flatV_get {k n : Nat} {val : Nat → Nat → Value} {q : Nat} (h : q < n * k) : (flatV k n val)[q]? = some (val (q / k) (q % k)) := by
  simp [flatV, h]

theorem flatV_at {k n : Nat} {val : Nat → Nat → Value} {i j : Nat} (hi : i < n) (hj : j < k) : (flatV k n val)[i * k + j]? = some (val i j) := by
  rw [flatV_get (lt_mul hi hj), (divmod_at hj).1, (divmod_at hj).2]

theorem lt_of_flat {k n q : Nat} (h : q < n * k) : q / k < n ∧ q % k < k := by
  have hk : 0 < k := by rcases Nat.eq_zero_or_pos k with e | e; · subst e; simp at h
                        · exact e
  exact ⟨(Nat.div_lt_iff_lt_mul hk).2 h, Nat.mod_lt _ hk⟩

/-- What is appended, in memory. -/
structure Src (g : G) (w : World) (k m : Nat) (fx : Nat → List D) (v : Value) where
  val : Nat → Nat → Value
  c : Nat
  form : (m = 0 ∧ v = .slice none 0 0) ∨ ∃ ad, v = .slice (some ad) m c ∧ ∀ i j, i < m → j < k → w.cell? (ad.add (i * k + j)) = some (val i j)
  one : ∀ i j, i < m → j < k → (val i j).oneCell' = true
  len : ∀ i, i < m → (fx i).length = k
  rep : ∀ i j x, i < m → (fx i)[j]? = some x → RepD g.H x (val i j)

theorem asrc_spec {h : List HObj} {g : G} {w : World} (hs : Seen h g w) {xv : AV} {v : Value} (hx : Rep g.H g.β xv v) {k m : Nat} {fx : Nat → List D} (he : asrc h xv = some (k, m, fx)) (hk : k ≠ 0) : Nonempty (Src g w k m fx v) := by
  unfold asrc at he
  split at he
  · simp only [Option.some.injEq, Prod.mk.injEq] at he
    obtain ⟨rfl, rfl, rfl⟩ := he
    cases hx with
    | d hx =>
    cases hx with
    | sl val hc hm hz hl h1 hH hr =>
    rename_i A c
    refine ⟨⟨val, c, ?_, h1, hl, hr⟩⟩
    cases A with
    | none =>
      have hc0 := hz rfl
      subst hc0
      have hn0 := Nat.le_zero.1 hc
      subst hn0
      exact .inl ⟨rfl, rfl⟩
    | some ad =>
      refine .inr ⟨ad, rfl, fun i j hi hj => ?_⟩
      obtain ⟨a', ha, hh⟩ := hH i j hi hj
      cases ha
      exact hs.imm _ _ hh
  · rename_i b m' k'
    split at he
    · rename_i kr mr f bt hb
      split at he
      · rename_i hc
        simp only [Option.some.injEq, Prod.mk.injEq] at he
        obtain ⟨rfl, rfl, rfl⟩ := he
        obtain ⟨rfl, rfl⟩ := hc
        cases hx with
        | ow hβ hc hm =>
          rename_i blk cc
          obtain ⟨vs, o1, o2, o3, o4, o6, o5⟩ := hs.obj b _ blk cc hb hβ
          refine ⟨⟨fun i j => vs.getD (i * k' + j) undef, cc, .inr ⟨_, rfl, fun i j hi hj => ?_⟩, o6, o4, o5⟩⟩
          rw [add_none, cell_block o1, Nat.zero_add]
          refine getD_some ?_
          rw [o2]
          exact lt_mul (by omega) hj
        | owNil => exact ⟨⟨fun _ _ => undef, 0, .inl ⟨rfl, rfl⟩, fun i j hi => by omega, fun i hi => by omega, fun i j x hi => by omega⟩⟩
      · cases he
    · cases he
  · cases he

theorem run_append_src {t ty e : TypeId} {i : TypeInfo} {z : Value} {k : Nat} (ht : P.underlying t = some (.slice e)) (hi : P.info? e = some i) (hz : i.zero = some z) (hsize : i.size = k) (hzs : z.cells.size = k) (hk : k ≠ 0)
    {g : G} {w : World} {m : Nat} {fx : Nat → List D} {xv : Value} (S : Src g w k m fx xv) (base : Nat) (v : Value) (n : Nat) (xs : List Value) (hown : w.ownsRow base e k v n xs) (h63 : n + m ≤ maxLen) (hbytes : (n + m) * i.bytes ≤ 140737488355328) (hbase : base ≤ w.heap.size) :
    ∃ v' w', (Builtin.append_ #[t, t] ty #[v, xv]).run P w = .ok v' w' ∧ w'.ownsRow base e k v' (n + m) (xs ++ flatV k m S.val) ∧ w.grownBy w' v.ownBlock ∧
      (v' = .slice none 0 0 ↔ v = .slice none 0 0 ∧ m = 0) ∧ (v'.ownBlock = v.ownBlock ∨ v'.ownBlock = some w.heap.size) := by
  obtain ⟨val, c0, form, hone, hlen, hrep⟩ := S
  dsimp only
  rcases form with ⟨rfl, rfl⟩ | ⟨ad, rfl, hcell⟩
  · refine ⟨v, w, run_append_owned_none (P := P) (w := w) base t ty e i k ht hi v n xs hown, by simpa [flatV] using hown, ⟨rfl, rfl, rfl, Nat.le_refl _, fun _ _ _ => rfl⟩, by simp, .inl rfl⟩
  · exact run_append_own_at w base t ty e i z k i.bytes ht hi hz hsize rfl hzs (by omega) v n xs hown ad m c0 (flatV k m val) (flatV_length _ _ _) (fun q u hq => by
      have hlt : q < m * k := by rw [← flatV_length k m val]; exact (List.getElem?_eq_some_iff.1 hq).1
      rw [flatV_get hlt] at hq
      cases hq
      have := hcell (q / k) (q % k) (lt_of_flat hlt).1 (lt_of_flat hlt).2
      rwa [show q / k * k + q % k = q from by rw [Nat.mul_comm]; exact Nat.div_add_mod q k] at this) (fun u hu => by
      obtain ⟨q, hq, rfl⟩ := List.getElem_of_mem hu
      have hlt : q < m * k := by rw [← flatV_length k m val]; exact hq
      have hfg := flatV_get (val := val) hlt
      rw [List.getElem?_eq_getElem hq, Option.some.injEq] at hfg
      rw [hfg]
      exact hone _ _ (lt_of_flat hlt).1 (lt_of_flat hlt).2) h63 hbytes hbase

/-! ### a box's number is given anew -/
def Bl.upd (β : Bl) (b : Nat) (x : Option (Nat × Nat)) : Bl := fun i => if i = b then x else β i

theorem AV.hasL_at {b : Nat} : ∀ {l : List AV}, AV.has.hasL b l = false → ∀ (i : Nat) (x : AV), l[i]? = some x → x.has b = false
  | [], _, i, x, h => by simp at h
  | y :: l, hl, i, x, h => by
    simp only [AV.has.hasL, Bool.or_eq_false_iff] at hl
    cases i with
    | zero => simp at h; subst h; exact hl.1
    | succ i => exact AV.hasL_at hl.2 i x (by simpa using h)

theorem Rep.upd {H : Mem} {β : Bl} {x : AV} {v : Value} (b : Nat) (y : Option (Nat × Nat)) (h : Rep H β x v) : x.has b = false → Rep H (β.upd b y) x v := by
  induction h with
  | d h => exact fun _ => .d h
  | ag hs h ih => exact fun ho => .ag hs (fun i x hx => ih i x hx (AV.hasL_at ho i x hx))
  | tu hs h ih => exact fun ho => .tu hs (fun i x hx => ih i x hx (AV.hasL_at ho i x hx))
  | rp val h hr => exact fun _ => .rp val h hr
  | bp h => intro ho; simp only [AV.has, beq_eq_false_iff_ne] at ho; exact .bp ((if_neg (fun e => ho e.symm)).trans h)
  | ow h hc hm => intro ho; simp only [AV.has, beq_eq_false_iff_ne] at ho; exact .ow ((if_neg (fun e => ho e.symm)).trans h) hc hm
  | owNil => exact fun _ => .owNil
  | ep h => intro ho; simp only [AV.has, beq_eq_false_iff_ne] at ho; exact .ep ((if_neg (fun e => ho e.symm)).trans h)
  | fn hs h hs' h' ih ih' => intro ho; simp only [AV.has, Bool.or_eq_false_iff] at ho; exact .fn hs (fun i x hx => ih i x hx (AV.hasL_at ho.1 i x hx)) hs' (fun i x hx => ih' i x hx (AV.hasL_at ho.2 i x hx))
  | opt h h' ih => exact fun ho => .opt (fun hc => ih hc ho) h'
  | yl h => intro ho; simp only [AV.has, beq_eq_false_iff_ne] at ho; exact .yl ((if_neg (fun e => ho e.symm)).trans h)
  | mv h => intro ho; simp only [AV.has, beq_eq_false_iff_ne] at ho; exact .mv ((if_neg (fun e => ho e.symm)).trans h)
  | sm h => intro ho; simp only [AV.has, beq_eq_false_iff_ne] at ho; exact .sm ((if_neg (fun e => ho e.symm)).trans h)
  | junk => exact fun _ => .junk

theorem Rep.kill {H : Mem} {β : Bl} {x : AV} {v : Value} (b : Nat) (y : Option (Nat × Nat)) (h : Rep H β x v) : Rep H (β.upd b y) (x.kill b) v := by
  unfold AV.kill
  cases e : x.has b with
  | true => exact .junk
  | false => exact h.upd b y e

theorem Sl.kill {σ : List AV} {g : G} {a : Act} (h : Sl σ g a) (b : Nat) (y : Option (Nat × Nat)) : Sl (σ.map (AV.kill b)) ⟨g.H, g.β.upd b y⟩ a :=
  ⟨by simp [h.size], fun i x hx => by
    simp only [List.getElem?_map, Option.map_eq_some_iff] at hx
    obtain ⟨x', hx', rfl⟩ := hx
    exact (h.at_ i x' hx').kill b y⟩

theorem ObjRep.kill {H : Mem} {β : Bl} {w w' : World} {blk cc : Nat} {o : HObj} (b : Nat) (y : Option (Nat × Nat)) (hw : w'.heap[blk]? = w.heap[blk]?) (h : ObjRep H β w blk cc o) : ObjRep H (β.upd b y) w' blk cc (o.kill b) := by
  cases o with
  | box wr cs t =>
    obtain ⟨vs, h1, h2, h3⟩ := h
    refine ⟨vs, hw.trans h1, by simp [h2], fun i x hx => ?_⟩
    simp only [List.getElem?_map, Option.map_eq_some_iff] at hx
    obtain ⟨x', hx', rfl⟩ := hx
    exact (h3 i x' hx').kill b y
  | row k n f t => obtain ⟨vs, h1, h2⟩ := h; exact ⟨vs, hw.trans h1, h2⟩
  | ghost xs vs ds => trivial
  | lp s p L xs =>
    obtain ⟨h1, h2, h3⟩ := h
    refine ⟨hw.trans h1, by simp [h2], fun i x hx => ?_⟩
    simp only [List.getElem?_map, Option.map_eq_some_iff] at hx
    obtain ⟨x', hx', rfl⟩ := hx
    exact (h3 i x' hx').kill b y
  | df => exact hw.trans h
  | mp zc za val has ps zs ag => obtain ⟨es, clock, h1, h2⟩ := h; exact ⟨es, clock, hw.trans h1, h2⟩
  | mx es clock zc za val has zs ag => obtain ⟨h1, h2⟩ := h; exact ⟨hw.trans h1, h2⟩
  | it b' since seen stepped =>
    obtain ⟨mb, cc', h0, h1⟩ := h
    simp only [HObj.kill]
    by_cases e' : b' = b
    · rw [show (b' == b) = true by simpa using e']; trivial
    · rw [show (b' == b) = false by simpa using e']
      exact ⟨mb, cc', (if_neg e').trans h0, hw.trans h1⟩
  | en b' K =>
    obtain ⟨es, clock, cc', i, e, ag, h0, h1, h2⟩ := h
    simp only [HObj.kill]
    by_cases e' : b' = b
    · rw [show (b' == b) = true by simpa using e']; trivial
    · rw [show (b' == b) = false by simpa using e']
      exact ⟨es, clock, cc', i, e, ag, (if_neg e').trans h0, hw.trans h1, h2⟩
  | dead => trivial

theorem HObj.kill_df {b : Nat} {o : HObj} : o.kill b = .df ↔ o = .df := by
  cases o <;> simp [HObj.kill]
  · rename_i b' K
    cases (b' == b) <;> simp
  · rename_i b' _ _ _
    cases (b' == b) <;> simp

theorem HObj.kill_wr (b : Nat) (o : HObj) (h : (o.kill b).wr = true) : o.wr = true := by
  cases o <;> first | exact h | rfl | (rename_i b' K; simp only [HObj.kill] at h; cases hh : (b' == b) <;> rw [hh] at h <;> cases h)

theorem Mks.grown {h : List HObj} {β : Bl} {ds : List Deferred} (k : Mks h β ds) {b : Nat} {o o' : HObj} (ho : h[b]? = some o) (hne : o ≠ .df) (y : Option (Nat × Nat)) : Mks ((h.map (HObj.kill b)).set b o') (β.upd b y) ds := fun d hd => by
  obtain ⟨i, blk, c, h1, h2, h3⟩ := k d hd
  have e : i ≠ b := fun e => by subst e; rw [ho] at h2; cases h2; exact hne rfl
  refine ⟨i, blk, c, h1, ?_, (if_neg e).trans h3⟩
  rw [List.getElem?_set_ne (fun e' => e e'.symm), List.getElem?_map, h2]
  rfl

/-- A row that has grown: where it was, or in a block of its own. -/
theorem Wd.grown {E : Ctx} {h : List HObj} {g : G} {w w' : World} (r : Wd E h g w) {b : Nat} (hlt : b < h.length) {row : Option Nat} (hg : w.grownBy w' row)
    (hrow : ∀ k, row = some k → ∃ cc o, g.β b = some (k, cc) ∧ h[b]? = some o ∧ o.wr = true) {o' : HObj} {y : Option (Nat × Nat)}
    (hy : ∀ blk cc, y = some (blk, cc) → (row = some blk ∨ w.heap.size ≤ blk) ∧ blk < w'.heap.size ∧ ObjRep g.H (g.β.upd b y) w' blk cc o') (hgf : o'.gfree = true) {ob : HObj} (hob : h[b]? = some ob) (hnd : ob ≠ .df) (hmp : ob.isMp = false := by rfl) (hwr : ob.wr = true := by rfl) :
    Wd E ((h.map (HObj.kill b)).set b o') ⟨g.H, g.β.upd b y⟩ w' := by
  have same : ∀ k, k < w.heap.size → row ≠ some k → w'.heap[k]? = w.heap[k]? := fun k hk hne => hg.block k hk (fun e => hne e.symm)
  have cases_ : ∀ {i : Nat} {x : Nat × Nat}, g.β.upd b y i = some x → (i = b ∧ y = some x) ∨ (i ≠ b ∧ g.β i = some x) := by
    intro i x hx
    unfold Bl.upd at hx
    by_cases e : i = b
    · rw [if_pos e] at hx; exact .inl ⟨e, hx⟩
    · rw [if_neg e] at hx; exact .inr ⟨e, hx⟩
  have far : ∀ {i blk cc : Nat}, i ≠ b → g.β i = some (blk, cc) → row ≠ some blk := by
    intro i blk cc hne hβ e
    obtain ⟨c2, o, h1, h2, h3⟩ := hrow blk e
    rw [hob] at h2; cases h2
    rcases r.inj i b blk cc c2 hβ h1 with k | ⟨x, k1, k2⟩ | ⟨x, k1, k2⟩
    · exact hne k
    · cases x <;> try (cases k2; done)
      obtain ⟨es, clock, _, _, _, _, _, m1, _⟩ := (r.obj i _ blk cc k1 hβ).1
      exact r.notMap hob h1 h3 hnd hmp es clock m1
    · rw [hob] at k1; cases k1
      cases ob <;> first | (cases k2; done) | cases h3
  refine ⟨fun p x hp => ?_, fun i oi bi ci hoi hβi => ?_, fun i bi ci hβi => ?_, fun i bi ci p x hβi hp => ?_, fun i j bi ci cj h1 h2 => ?_, ?_, fun i xs vs ds hi => ?_⟩
  · refine (World.cell?_of_block (same _ (World.block_lt_of_cell? w p (r.imm p x hp)) (fun e => ?_))).trans (r.imm p x hp)
    obtain ⟨c2, o, h1, _⟩ := hrow _ e
    exact r.sep b _ c2 p x h1 hp rfl
  · rcases cases_ hβi with ⟨rfl, e⟩ | ⟨hne, hβi⟩
    · rw [List.getElem?_set_self (by simpa using hlt)] at hoi
      cases hoi
      obtain ⟨k1, k2, k3⟩ := hy bi ci e
      refine ⟨k3, fun _ => ?_⟩
      rcases k1 with k1 | k1
      · obtain ⟨c2, o, h1, h2, h3⟩ := hrow _ k1
        exact (r.obj i o bi c2 h2 h1).2 h3
      · exact .inl (Nat.le_trans r.fr.size k1)
    · rw [List.getElem?_set_ne (fun e => hne e.symm), List.getElem?_map, Option.map_eq_some_iff] at hoi
      obtain ⟨o, ho, rfl⟩ := hoi
      obtain ⟨k1, k2⟩ := r.obj i o bi ci ho hβi
      exact ⟨k1.kill b y (same _ (r.lt i bi ci hβi).2 (far hne hβi)), fun hw => k2 (HObj.kill_wr _ _ hw)⟩
  · rcases cases_ hβi with ⟨rfl, e⟩ | ⟨hne, hβi⟩
    · exact ⟨by simpa using hlt, (hy bi ci e).2.1⟩
    · exact ⟨by simpa using (r.lt i bi ci hβi).1, Nat.lt_of_lt_of_le (r.lt i bi ci hβi).2 hg.size⟩
  · rcases cases_ hβi with ⟨rfl, e⟩ | ⟨hne, hβi⟩
    · rcases (hy bi ci e).1 with k1 | k1
      · obtain ⟨c2, o, h1, _⟩ := hrow _ k1
        exact r.sep i bi c2 p x h1 hp
      · have := World.block_lt_of_cell? w p (r.imm p x hp); omega
    · exact r.sep i bi ci p x hβi hp
  · rcases cases_ h1 with ⟨d1, e1⟩ | ⟨n1, f1⟩ <;> rcases cases_ h2 with ⟨d2, e2⟩ | ⟨n2, f2⟩
    · exact .inl (by rw [d1, d2])
    · rcases (hy bi ci e1).1 with k1 | k1
      · exact absurd k1 (far n2 f2)
      · have := (r.lt j bi cj f2).2; omega
    · rcases (hy bi cj e2).1 with k1 | k1
      · exact absurd k1 (far n1 f1)
      · have := (r.lt i bi ci f1).2; omega
    · have live : ∀ {q : Nat} {cq : Nat}, q ≠ b → g.β q = some (bi, cq) → enAt h q → enAt ((h.map (HObj.kill b)).set b o') q := by
        intro q cq hq hβq ⟨x, k1, k2⟩
        cases x <;> try (cases k2; done)
        rename_i b' K
        have hb' : b' ≠ b := by
          intro e'
          subst e'
          obtain ⟨es, clock, cc', _, _, _, m0, m1, _⟩ := (r.obj q _ bi cq k1 hβq).1
          exact r.notMap hob m0 hwr hnd hmp es clock m1
        refine ⟨.en b' K, ?_, rfl⟩
        rw [List.getElem?_set_ne (fun e => hq e.symm), List.getElem?_map, k1]
        simp only [Option.map_some, HObj.kill]
        rw [show (b' == b) = false by simpa using hb', cond_false]
      exact (r.inj i j bi ci cj f1 f2).imp id (Or.imp (live n1 f1) (live n2 f2))
  · refine ⟨r.fr.mono, r.fr.new, fun k hk hM => ?_, Nat.le_trans r.fr.size hg.size, hg.os.trans r.fr.os, hg.tape.trans r.fr.tape, hg.output.trans r.fr.output⟩
    refine (same k (Nat.lt_of_lt_of_le hk r.fr.size) (fun e => ?_)).trans (r.fr.frame k hk hM)
    obtain ⟨c2, o, h1, h2, h3⟩ := hrow k e
    rcases (r.obj b o k c2 h2 h1).2 h3 with k1 | k1
    · omega
    · exact hM k1
  · by_cases e : i = b
    · subst e
      rw [List.getElem?_set_self (by simpa using hlt)] at hi
      cases hi; cases hgf
    · rw [List.getElem?_set_ne (fun e' => e e'.symm), List.getElem?_map, Option.map_eq_some_iff] at hi
      obtain ⟨o, ho, e2⟩ := hi
      obtain ⟨zs, us, es, rfl⟩ : ∃ zs us es, o = .ghost zs us es := by
        cases o with
        | ghost zs us es => exact ⟨_, _, _, rfl⟩
        | en b' K => simp only [HObj.kill] at e2; cases hq : (b' == b) <;> rw [hq] at e2 <;> cases e2
        | it b' _ _ _ => simp only [HObj.kill] at e2; cases hq : (b' == b) <;> rw [hq] at e2 <;> cases e2
        | _ => simp only [HObj.kill] at e2; cases e2
      simp only [HObj.kill, HObj.ghost.injEq] at e2
      obtain ⟨rfl, rfl, rfl⟩ := e2
      refine ⟨fun j x hx => ?_, Mks.grown (r.gh i _ _ _ ho).2 hob hnd y⟩
      simp only [List.getElem?_map, Option.map_eq_some_iff] at hx
      obtain ⟨x', hx', rfl⟩ := hx
      exact ((r.gh i _ _ _ ho).1 j x' hx').kill b y

theorem Dfr.grown {E : Ctx} {h : List HObj} {β : Bl} {ds : List Deferred} (k : Dfr E h β ds) {b : Nat} {o o' : HObj} (ho : h[b]? = some o) (hne : o ≠ .df) (y : Option (Nat × Nat)) : Dfr E ((h.map (HObj.kill b)).set b o') (β.upd b y) ds :=
  ⟨k.1, k.2.1, Mks.grown k.2.2 ho hne y⟩

theorem take_get {cur : Array Value} {N : Nat} {xs : List Value} (h : cur.toList.take N = xs) {q : Nat} (hq : q < N) : cur.getD q undef = xs.getD q undef := by
  subst h
  rw [List.getD_eq_getElem?_getD, List.getElem?_take_of_lt hq, Array.getElem?_toList, Array.getD_eq_getD_getElem?]

theorem append_getD (xs ys : List Value) (q : Nat) : (xs ++ ys).getD q undef = if q < xs.length then xs.getD q undef else ys.getD (q - xs.length) undef := by
  simp only [List.getD_eq_getElem?_getD]
  split
  · rw [List.getElem?_append_left (by assumption)]
  · rw [List.getElem?_append_right (by omega)]

/-- The grown row reads as it is to. -/
theorem row_of_owns {g : G} {w w' : World} {k n m e base : Nat} {f fx : Nat → List D} {xs : List Value} {xv v' : Value} (S : Src g w k m fx xv) (hxl : xs.length = n * k) (hfl : ∀ i, i < n → (f i).length = k)
    (h1 : ∀ i j, i < n → j < k → (xs.getD (i * k + j) undef).oneCell' = true) (hf : ∀ i j x, i < n → (f i)[j]? = some x → RepD g.H x (xs.getD (i * k + j) undef))
    (hown : w'.ownsRow base e k v' (n + m) (xs ++ flatV k m S.val)) (hv' : v' ≠ .slice none 0 0) :
    ∃ blk cc, v' = .slice (some ⟨blk, 0, none⟩) (n + m) cc ∧ n + m ≤ cc ∧ cc ≤ maxLen ∧ blk < w'.heap.size ∧ ∀ β : Bl, ObjRep g.H β w' blk cc (.row k (n + m) (fun j => if j < n then f j else fx (j - n)) e) := by
  obtain ⟨hl, h | ⟨blk, cc, cur, rfl, hb, hh, hc, hm, hs, ht⟩⟩ := hown
  · exact absurd h.1 hv'
  · have hflat : ∀ i j, i < m → j < k → (flatV k m S.val).getD (i * k + j) undef = S.val i j := fun i j hi hj => by rw [List.getD_eq_getElem?_getD, flatV_at hi hj]; rfl
    have hget : ∀ i j, i < n + m → j < k → cur.getD (i * k + j) undef = if i < n then xs.getD (i * k + j) undef else S.val (i - n) j := by
      intro i j hi hj
      rw [take_get ht (lt_mul hi hj), append_getD, hxl]
      by_cases hin : i < n
      · rw [if_pos (lt_mul hin hj), if_pos hin]
      · rw [if_neg (by have : n * k ≤ i * k := Nat.mul_le_mul_right _ (by omega); omega), if_neg hin, ← hflat (i - n) j (by omega) hj]
        congr 1
        rw [Nat.sub_mul]
        have : n * k ≤ i * k := Nat.mul_le_mul_right _ (by omega)
        omega
    refine ⟨blk, cc, rfl, hc, hm, (Array.getElem?_eq_some_iff.1 hh).1, fun _ => ⟨cur, hh, hs, hc, fun i hi => ?_, fun i j hi hj => ?_, fun i j x hi hx => ?_⟩⟩
    · dsimp only
      split
      · exact hfl _ ‹_›
      · exact S.len _ (by omega)
    · rw [hget i j hi hj]
      split
      · exact h1 _ _ ‹_› hj
      · exact S.one _ _ (by omega) hj
    · dsimp only at hx
      have hj : j < k := by
        have := (List.getElem?_eq_some_iff.1 hx).1
        split at this
        · rwa [hfl _ ‹_›] at this
        · rwa [S.len _ (by omega)] at this
      rw [hget i j hi hj]
      split
      · rename_i hin; rw [if_pos hin] at hx; exact hf _ _ _ hin hx
      · rename_i hin; rw [if_neg hin] at hx; exact S.rep _ _ _ (by omega) hx
end
end Go.Jo
