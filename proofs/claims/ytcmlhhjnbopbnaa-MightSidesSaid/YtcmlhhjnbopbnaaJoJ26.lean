/- Small words for printed functions and their walks; rows of one's own told by lists. Over any program. -/
import Derived.Test.YtcmlhhjnbopbnaaJoJ25
namespace Go.Jo
open Go.RowKit
set_option autoImplicit false

def lt {α : Type} {β : Type} (a : α) (f : α → β) : β := f a
def bindS {R V X : Type} (s : R ⊕ V) (fr : R → X) (fv : V → X) : X :=
  match s with
  | .inl r => fr r
  | .inr v => fv v

theorem lE {α β : Type} {x a : α} {f : α → β} (h : x = a) : lt a f = f x := by subst h; rfl
theorem cT {α : Type} {c : Bool} {a b : α} (h : c = true) : cond c a b = a := by subst h; rfl
theorem cF {α : Type} {c : Bool} {a b : α} (h : c = false) : cond c a b = b := by subst h; rfl
theorem bL {R V X : Type} {s : R ⊕ V} {r : R} {fr : R → X} {fv : V → X} (h : s = .inl r) : bindS s fr fv = fr r := by subst h; rfl
theorem bR {R V X : Type} {s : R ⊕ V} {v : V} {fr : R → X} {fv : V → X} (h : s = .inr v) : bindS s fr fv = fv v := by subst h; rfl

theorem HConv.one {α : Type} [Inhabited α] {k : Nat} {t : TypeId} (enc : α → List D) (x : α) {fx : Nat → List D} (h : fx 0 = enc x) : HConv (.row k 1 fx t) (.row k [x].length (fun j => enc ([x].getD j default)) t) :=
  HConv.row' rfl (fun i hi => by obtain rfl : i = 0 := by omega
                                 exact h)
theorem HConv.snoc {α : Type} [Inhabited α] {k : Nat} {t : TypeId} (enc : α → List D) (l : List α) (x : α) {fx : Nat → List D} (h : fx 0 = enc x) :
    HConv (.row k (l.length + 1) (fun j => if j < l.length then enc (l.getD j default) else fx (j - l.length)) t) (.row k (l ++ [x]).length (fun j => enc ((l ++ [x]).getD j default)) t) :=
  HConv.row' (by simp) (fun i hi => by
    by_cases e : i < l.length
    · rw [if_pos e]; simp [List.getD_eq_getElem?_getD, List.getElem?_append_left e]
    · obtain rfl : i = l.length := by omega
      rw [if_neg e, Nat.sub_self, h]; simp [List.getD_eq_getElem?_getD])
theorem HConv.app {α : Type} [Inhabited α] {k : Nat} {t : TypeId} (enc : α → List D) (l m : List α) :
    HConv (.row k (l.length + m.length) (fun j => if j < l.length then enc (l.getD j default) else enc (m.getD (j - l.length) default)) t) (.row k (l ++ m).length (fun j => enc ((l ++ m).getD j default)) t) :=
  HConv.row' (by simp) (fun i hi => by
    by_cases e : i < l.length
    · rw [if_pos e]; simp [List.getD_eq_getElem?_getD, List.getElem?_append_left e]
    · rw [if_neg e]; simp [List.getD_eq_getElem?_getD, List.getElem?_append_right (Nat.le_of_not_lt e)])
theorem HConv.set {α : Type} [Inhabited α] {k : Nat} {t : TypeId} (enc : α → List D) (l : List α) (i : Nat) (x : α) {off : Nat} {ds : List D} (h : dwr (enc (l.getD i default)) off ds = enc x) :
    HConv (.row k l.length (fun j => if j = i then dwr (enc (l.getD j default)) off ds else enc (l.getD j default)) t) (.row k (l.set i x).length (fun j => enc ((l.set i x).getD j default)) t) :=
  HConv.row' (by simp) (fun j hj => by
    by_cases e : j = i
    · subst e; rw [if_pos rfl, h]; simp [List.getD_eq_getElem?_getD, hj]
    · rw [if_neg e]; simp [List.getD_eq_getElem?_getD, List.getElem?_set, Ne.symm e])

theorem cO {b n n' k : Nat} (h : n = n') : Conv (.ow b n k) (.ow b n' k) := by subst h; exact Conv.refl _

/-- The nil slice as a row of one's own that is not there yet. -/
theorem St.leNil {st : St} (s k : Nat) (f : Nat → List D) (t : TypeId) (hs : st.σ[s]? = some (.d (.v (.slice none 0 0)))) : st.le ⟨st.σ.set s (.ow st.h.length 0 k), st.h ++ [.row k 0 f t]⟩ := by
  intro E g a w r
  refine ⟨g, ⟨⟨by simpa using r.sl.size, fun i x hx => ?_⟩, r.wd.more [.row k 0 f t] (by simp [HObj.gfree]), r.df.app⟩⟩
  rw [List.getElem?_set] at hx
  by_cases e : s = i
  · subst e
    rw [if_pos rfl] at hx
    split at hx
    · cases hx
      have h1 := r.sl.at_ s _ hs
      have h2 : a.tmps.getD s undef = .slice none 0 0 := h1.lit_inv
      rw [h2]; exact .owNil
    · cases hx
  · rw [if_neg e] at hx; exact r.sl.at_ i x hx

theorem w64c {x : Int} (h1 : -9223372036854775808 ≤ x) (h2 : x ≤ 9223372036854775807) : Conv (.d (dI (IntKind.i64.wrap x))) (.d (dI x)) := by rw [w64 h1 h2]; exact Conv.refl _
end Go.Jo
