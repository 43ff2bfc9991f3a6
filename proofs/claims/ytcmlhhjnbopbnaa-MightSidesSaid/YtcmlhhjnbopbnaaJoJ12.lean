/- A region: in the order of the text, in any order. Over any program. -/
import Derived.Test.YtcmlhhjnbopbnaaJoJ11
namespace Go.Jo
open Go.RowKit
set_option autoImplicit false

/-- A store leaves nothing in a slot; a guard stands at no operation that writes. -/
def okStore (ops : List Oper) : Bool := ops.all fun o => match o.op with | .store _ _ _ => o.dst == none | .mapUpdate _ _ _ _ => o.dst == none | .entryStore _ _ _ _ => o.dst == none | _ => true

section
variable {P : Program} {c : Cfg}

theorem okStore_spec {ops : Array Oper} (h : okStore ops.toList = true) {o : Oper} (ho : o ∈ ops.toList) : ∀ t x y, o.op = .store t x y → o.dst = none := by
  intro t x y e
  have := (List.all_eq_true.1 h) o ho
  rw [e] at this
  simpa using this

theorem okStore_mw {ops : Array Oper} (h : okStore ops.toList = true) {o : Oper} (ho : o ∈ ops.toList) : isMW o.op = true → o.dst = none := by
  intro e
  have := (List.all_eq_true.1 h) o ho
  unfold isMW at e
  split at e
  · rename_i hop; rw [hop] at this; simpa using this
  · rename_i hop; rw [hop] at this; simpa using this
  · cases e

/-- One operation, in the order of the text. -/
theorem aops_one {rd : Option Nat} (hc : c.OK P) {ops : Array Oper} {o : Oper} {rest : List Oper} (hd : ∀ t x y, o.op = .store t x y → o.dst = none) (hd' : isMW o.op = true → o.dst = none) {E : Ctx} {st : St} {g : G} {a : Act} {w : World} {K : St → Prop} (hr : Rel E st g a w) (h : aops c P ops (o :: rest) st K)
    {i : Nat} (hi : ops[i]? = some o) {next : Act → World → Prop} {Q : Exit → Act → World → Prop} (hn : ∀ st' g' a' w', aops c P ops rest st' K → Rel E st' g' a' w' → next a' w') : wpOpIn (FR rd) 0 P ops Q i next a w := by
  unfold wpOpIn
  rw [hi]
  dsimp only
  cases hw : isWr o.op with
  | false =>
    obtain ⟨r, no, hy, h1⟩ := aops_step hc hw h
    have := hy.seq (rd := rd) hr (next := next) (Q := Q) (fun g' a' w' h' => hn _ g' a' w' h1 h')
    split
    · rename_i hwant; rw [if_pos hwant] at this; exact this
    · rename_i hwant; rw [if_neg hwant] at this; exact ⟨fun _ _ => trivial, this⟩
  | true =>
    unfold aops at h
    rw [hw, cond_true] at h
    split at h
    · rename_i hg
      rw [if_pos (by simp [Region.wanted, hg])]
      exact awr_sound hc hd hd' hr h hn
    · cases h

theorem aops_seq {rd : Option Nat} (hc : c.OK P) {ops : Array Oper} (hs : okStore ops.toList = true) {E : Ctx} {K : St → Prop} {Q : Exit → Act → World → Prop} (hK : ∀ st' g' a' w', K st' → Rel E st' g' a' w' → Q .normal a' w') :
    ∀ (rest : List Oper) (k : Nat) (st : St) (g : G) (a : Act) (w : World), ops.toList.drop k = rest → Rel E st g a w → aops c P ops rest st K → wpOpsIn (FR rd) 0 P ops Q (List.range' k rest.length) a w
  | [], k, st, g, a, w, _, hr, h => by
    simp only [List.length_nil, List.range'_zero, wpOpsIn]
    exact hK st g a w h hr
  | o :: rest, k, st, g, a, w, hd, hr, h => by
    have hk : ops.toList[k]? = some o := by
      have : (ops.toList.drop k)[0]? = some o := by rw [hd]; rfl
      simpa using this
    have hd' : ops.toList.drop (k + 1) = rest := by rw [← List.drop_drop, hd]; rfl
    rw [List.length_cons, List.range'_succ, wpOpsIn_cons]
    exact aops_one hc (okStore_spec hs (List.mem_of_getElem? hk)) (okStore_mw hs (List.mem_of_getElem? hk)) hr h (by simpa using hk) (fun st' g' a' w' h1 h2 => aops_seq hc hs hK rest (k + 1) st' g' a' w' hd' h2 h1)

/-! ### in any order -/
def bindsOn (o : Oper) (i : Nat) : Bool := o.after.toList.any fun e => Region.binds .any e && e.on == i

/-- The first m write nothing; each waits for what it reads, or what writes that waits for it; then e writes into maps: each waits for what it reads, for all that look at maps, for those ahead of it; all others wait for all ahead of them. -/
def okOrderE (ops : Array Oper) (m e : Nat) : Bool :=
  decide (m + e ≤ ops.size) && okStore ops.toList &&
  (List.range ops.size).all fun i =>
    match ops[i]? with
    | none => false
    | some o =>
      (o.after.toList.all fun e => !Region.binds .any e || decide (e.on < i)) &&
      (if i < m then !isWr o.op && (List.range m).all fun k =>
          match ops[k]? with
          | none => false
          | some ok =>
            match ok.dst with
            | none => true
            | some t => k == i || (o.dst != some t && (!(o.looksAt ops).contains t || (decide (k < i) && bindsOn o k) || (decide (i < k) && bindsOn ok i)))
       else if i < m + e then isMW o.op && o.guard.isNone && ((List.range m).all fun k =>
          match ops[k]? with
          | none => false
          | some ok => bindsOn o k || (!mapRd ok.op && match ok.dst with | none => true | some t => !(o.looksAt ops).contains t)) && ((List.range i).all fun j => decide (j < m) || bindsOn o j)
       else (List.range i).all fun j => bindsOn o j)

def okOrder (ops : Array Oper) (m : Nat) : Bool := okOrderE ops m ((ops.toList.drop m).takeWhile fun o => isMW o.op && o.guard.isNone).length

/-- What the check says. -/
structure OrdOK (ops : Array Oper) (m e : Nat) : Prop where
  le' : m + e ≤ ops.size
  st : okStore ops.toList = true
  lt : ∀ (i : Nat) (o : Oper) (e : Edge), ops[i]? = some o → e ∈ o.after.toList → Region.binds .any e = true → e.on < i
  pure : ∀ i o, i < m → ops[i]? = some o → isWr o.op = false
  dst : ∀ i k o ok t, i < m → k < m → k ≠ i → ops[i]? = some o → ops[k]? = some ok → ok.dst = some t → o.dst ≠ some t
  look : ∀ i k o ok t, i < m → k < m → k ≠ i → ops[i]? = some o → ops[k]? = some ok → ok.dst = some t → t ∈ o.looksAt ops → (k < i ∧ bindsOn o k = true) ∨ (i < k ∧ bindsOn ok i = true)
  mw : ∀ i o, m ≤ i → i < m + e → ops[i]? = some o → isMW o.op = true ∧ o.guard = none
  mrd : ∀ i o k ok, m ≤ i → i < m + e → ops[i]? = some o → k < m → ops[k]? = some ok → mapRd ok.op = true → bindsOn o k = true
  mlook : ∀ i o k ok t, m ≤ i → i < m + e → ops[i]? = some o → k < m → ops[k]? = some ok → ok.dst = some t → t ∈ o.looksAt ops → bindsOn o k = true
  mprev : ∀ i o j, m ≤ i → i < m + e → ops[i]? = some o → m ≤ j → j < i → bindsOn o j = true
  wr : ∀ i j o, m + e ≤ i → ops[i]? = some o → j < i → bindsOn o j = true

theorem OrdOK.le {ops : Array Oper} {m e : Nat} (h : OrdOK ops m e) : m ≤ ops.size := by have := h.le'; omega

theorem okOrder_spec {ops : Array Oper} {m : Nat} (h : okOrder ops m = true) : ∃ e, OrdOK ops m e := by
  unfold okOrder at h
  generalize ((ops.toList.drop m).takeWhile fun o => isMW o.op && o.guard.isNone).length = e at h
  refine ⟨e, ?_⟩
  unfold okOrderE at h
  simp only [Bool.and_eq_true, decide_eq_true_eq, List.all_eq_true, List.mem_range] at h
  obtain ⟨⟨h1, h2⟩, h3⟩ := h
  have hlt : ∀ {i : Nat} {o : Oper}, ops[i]? = some o → i < ops.size := fun ho => (Array.getElem?_eq_some_iff.1 ho).1
  refine ⟨h1, h2, fun i o e' ho he hbi => ?_, fun i o hi ho => ?_, fun i k o ok t hi hk hne ho hok ht => ?_, fun i k o ok t hi hk hne ho hok ht hl => ?_, fun i o hi hi2 ho => ?_, fun i o k ok hi hi2 ho hk hok hrd => ?_,
    fun i o k ok t hi hi2 ho hk hok ht hl => ?_, fun i o j hi hi2 ho hj1 hj2 => ?_, fun i j o hi ho hj => ?_⟩
  all_goals (have h4 := h3 i (hlt ho); rw [ho] at h4; simp only [Bool.and_eq_true, List.all_eq_true, decide_eq_true_eq] at h4)
  · have h9 := h4.1 e' he
    rw [hbi] at h9
    simpa using h9
  · rw [if_pos hi] at h4; simp only [Bool.and_eq_true, Bool.not_eq_true'] at h4; exact h4.2.1
  · rw [if_pos hi] at h4
    simp only [Bool.and_eq_true, List.all_eq_true, List.mem_range] at h4
    have h5 := h4.2.2 k hk
    rw [hok] at h5
    simp only [ht, Bool.or_eq_true, beq_iff_eq, hne, false_or, Bool.and_eq_true, bne_iff_ne] at h5
    exact h5.1
  · rw [if_pos hi] at h4
    simp only [Bool.and_eq_true, List.all_eq_true, List.mem_range] at h4
    have h5 := h4.2.2 k hk
    rw [hok] at h5
    simp only [ht, Bool.or_eq_true, beq_iff_eq, hne, false_or, Bool.and_eq_true, bne_iff_ne, Bool.not_eq_true', decide_eq_true_eq] at h5
    rcases h5.2 with (h6 | h6) | h6
    · have := List.contains_iff_mem.2 hl
      rw [this] at h6; cases h6
    · exact .inl h6
    · exact .inr h6
  · rw [if_neg (by omega), if_pos hi2] at h4
    simp only [Bool.and_eq_true, Option.isNone_iff_eq_none] at h4
    exact ⟨h4.2.1.1.1, h4.2.1.1.2⟩
  · rw [if_neg (by omega), if_pos hi2] at h4
    simp only [Bool.and_eq_true, List.all_eq_true, List.mem_range] at h4
    have h5 := h4.2.1.2 k hk
    rw [hok] at h5
    simp only [Bool.or_eq_true, Bool.and_eq_true, hrd, Bool.not_true, Bool.false_eq_true, false_and, or_false] at h5
    exact h5
  · rw [if_neg (by omega), if_pos hi2] at h4
    simp only [Bool.and_eq_true, List.all_eq_true, List.mem_range] at h4
    have h5 := h4.2.1.2 k hk
    rw [hok] at h5
    simp only [Bool.or_eq_true, Bool.and_eq_true, ht, List.contains_iff_mem.2 hl, Bool.not_true, Bool.false_eq_true, and_false, or_false] at h5
    exact h5
  · rw [if_neg (by omega), if_pos hi2] at h4
    simp only [Bool.and_eq_true, List.all_eq_true, List.mem_range] at h4
    have h5 := h4.2.2 j hj2
    simp only [Bool.or_eq_true, decide_eq_true_eq] at h5
    rcases h5 with h5 | h5
    · omega
    · exact h5
  · rw [if_neg (by omega), if_neg (by omega)] at h4
    simp only [List.all_eq_true, List.mem_range] at h4
    exact h4.2 j hj

theorem binds_ready {ops : Array Oper} {listed : Array Bool} {i k : Nat} {o : Oper} (hi : i ∈ Region.ready .any ops listed) (ho : ops[i]? = some o) (hb : bindsOn o k = true) : listed.getD k false = true := by
  unfold Region.ready at hi
  rw [List.mem_filter] at hi
  obtain ⟨_, hi⟩ := hi
  simp only [ho, Option.map_some, Option.getD_some, Bool.and_eq_true] at hi
  have h2 := hi.2
  rw [← Array.all_toList, List.all_eq_true] at h2
  unfold bindsOn at hb
  rw [List.any_eq_true] at hb
  obtain ⟨e, he, hbe⟩ := hb
  simp only [Bool.and_eq_true, beq_iff_eq] at hbe
  have := h2 e he
  rw [hbe.1, Bool.not_true, Bool.false_or] at this
  rw [← hbe.2]; exact this

theorem ready_iff {ops : Array Oper} {listed : Array Bool} {i : Nat} (hi : i ∈ Region.ready .any ops listed) : i < ops.size ∧ listed.getD i true = false ∧ ∃ o, ops[i]? = some o := by
  unfold Region.ready at hi
  rw [List.mem_filter, List.mem_range] at hi
  obtain ⟨h1, h2⟩ := hi
  simp only [Bool.and_eq_true, Bool.not_eq_true'] at h2
  exact ⟨h1, h2.1, _, Array.getElem?_eq_getElem h1⟩

/-- How many have not come up. -/
def left (n : Nat) (listed : Array Bool) : Nat := ((List.range n).filter fun i => !listed.getD i true).length

theorem filter_lt {α : Type} {l : List α} {p q : α → Bool} (hpq : ∀ x ∈ l, q x = true → p x = true) {x : α} (hx : x ∈ l) (hp : p x = true) (hq : q x = false) : (l.filter q).length < (l.filter p).length := by
  induction l with
  | nil => cases hx
  | cons y l ih =>
    have hle : (l.filter q).length ≤ (l.filter p).length := by
      clear ih hx
      have hpq' : ∀ x ∈ l, q x = true → p x = true := fun x hx => hpq x (by simp [hx])
      clear hpq
      induction l with
      | nil => simp
      | cons z l ih2 =>
        have := ih2 (fun x hx => hpq' x (by simp [hx]))
        by_cases hz : q z = true
        · simp [hz, hpq' z (by simp) hz]; exact this
        · by_cases hz' : p z = true
          · simp [hz, hz']; omega
          · simp [hz, hz']; exact this
    by_cases e : x = y
    · subst e
      simp [hp, hq]; omega
    · have hx' : x ∈ l := by
        cases hx with
        | head => exact absurd rfl e
        | tail _ h => exact h
      have := ih (fun x hx => hpq x (by simp [hx])) hx'
      by_cases hz : q y = true
      · simp [hz, hpq y (by simp) hz]; exact this
      · by_cases hz' : p y = true
        · simp [hz, hz']; omega
        · simp [hz, hz']; exact this

theorem left_set {n : Nat} {listed : Array Bool} (hs : listed.size = n) {i : Nat} (hi : i < n) (hf : listed.getD i true = false) : left n (listed.setIfInBounds i true) < left n listed := by
  refine filter_lt (x := i) (fun x _ hq => ?_) (by simpa using hi) (by simpa using hf) (by simp [Array.getD_eq_getD_getElem?, hs, hi])
  rw [Array.getD_eq_getD_getElem?, Array.getElem?_setIfInBounds] at hq
  rw [Array.getD_eq_getD_getElem?]
  by_cases e : i = x
  · subst e; simp [hs, hi] at hq
  · rw [if_neg e] at hq; exact hq

theorem listed_set {n : Nat} {listed : Array Bool} (hs : listed.size = n) {i k : Nat} (hi : i < n) : (listed.setIfInBounds i true).getD k false = true ↔ k = i ∨ listed.getD k false = true := by
  rw [Array.getD_eq_getD_getElem?, Array.getElem?_setIfInBounds, Array.getD_eq_getD_getElem?]
  by_cases e : i = k
  · subst e; simp [hs, hi]
  · rw [if_neg e]; constructor
    · exact .inr
    · rintro (h | h)
      · exact absurd h.symm e
      · exact h

theorem getD_tf {listed : Array Bool} {i : Nat} (h : listed.getD i true = false) : listed.getD i false = false := by
  rw [Array.getD_eq_getD_getElem?] at *
  cases e : listed[i]? with
  | none => simp
  | some b => simp [e] at h ⊢; exact h

theorem getD_ft {listed : Array Bool} {i : Nat} (hi : i < listed.size) (h : listed.getD i false = false) : listed.getD i true = false := by
  rw [Array.getD_eq_getD_getElem?] at *
  simp [hi] at h ⊢; exact h

theorem ready_least {ops : Array Oper} {m e : Nat} (ho : OrdOK ops m e) {listed : Array Bool} (hs : listed.size = ops.size) {i : Nat} (hi : i < ops.size) (hf : listed.getD i false = false) (hl : ∀ j, j < i → listed.getD j false = true) : i ∈ Region.ready .any ops listed := by
  unfold Region.ready
  rw [List.mem_filter, List.mem_range]
  refine ⟨hi, ?_⟩
  rw [Array.getElem?_eq_getElem hi]
  simp only [Option.map_some, Option.getD_some, Bool.and_eq_true, Bool.not_eq_true']
  refine ⟨getD_ft (by rw [hs]; exact hi) hf, ?_⟩
  rw [← Array.all_toList, List.all_eq_true]
  intro e he
  cases hbi : Region.binds .any e with
  | false => simp
  | true => rw [hl e.on (ho.lt i _ e (Array.getElem?_eq_getElem hi) he hbi)]; simp

/-- All have come up, or the least that has not may. -/
theorem all_or_ready {ops : Array Oper} {m e : Nat} (ho : OrdOK ops m e) {listed : Array Bool} (hs : listed.size = ops.size) : (∀ i, i < ops.size → listed.getD i false = true) ∨ Region.ready .any ops listed ≠ [] := by
  by_cases h : ∃ i, i < ops.size ∧ listed.getD i false = false
  · right
    obtain ⟨i, hi, hf⟩ := h
    have : ∀ n, ∀ i, i ≤ n → i < ops.size → listed.getD i false = false → Region.ready .any ops listed ≠ [] := by
      intro n
      induction n with
      | zero => intro i hn hi hf; exact List.ne_nil_of_mem (ready_least ho hs hi hf (fun j hj => by omega))
      | succ n ih =>
        intro i hn hi hf
        by_cases hall : ∀ j, j < i → listed.getD j false = true
        · exact List.ne_nil_of_mem (ready_least ho hs hi hf hall)
        · simp only [Classical.not_forall] at hall
          obtain ⟨j, hj, hjf⟩ := hall
          exact ih j (by omega) (by omega) (by simpa using hjf)
    exact this i i (Nat.le_refl _) hi hf
  · left
    intro i hi
    cases e : listed.getD i false with
    | true => rfl
    | false => exact absurd ⟨i, hi, e⟩ h

end
end Go.Jo
