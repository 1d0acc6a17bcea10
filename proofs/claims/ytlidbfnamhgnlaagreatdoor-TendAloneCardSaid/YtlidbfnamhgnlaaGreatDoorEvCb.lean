/- Typed data as the evaluator's values: what its operations make of them. -/
import Derived.Test.YtlidbfnamhgnlaaGreatDoorEvCa
namespace Go.Ev
open Go

class Enc (α : Type) where
  av : α → AV
  sz : Nat
  ro : ∀ x n g, froz n g (av x) = some (av x)
  cells : ∀ x, (av x).cells.length = sz
  ok : ∀ x, okCells (av x) = true

open Enc (av)

section
variable {α : Type} [Enc α]

/-- A list that is only read. -/
def lst (xs : List α) : AV := L (Enc.sz α) (xs.map av)

theorem frozs_map (n : Nat) (g : Nat → Nat) (xs : List α) : frozs n g (xs.map av) = some (xs.map av) := by
  induction xs with
  | nil => rfl
  | cons x xs ih => simp [frozs, Enc.ro, ih]

theorem L_cons (sz : Nat) (x : AV) (xs : List AV) : L sz (x :: xs) = .sl .ro sz (x :: xs) := rfl

theorem L_eta (sz : Nat) (xs : List AV) : L (if xs.isEmpty then 0 else sz) xs = L sz xs := by
  cases xs <;> rfl

theorem froz_L (n : Nat) (g : Nat → Nat) (sz : Nat) (xs ys : List AV) (h : frozs n g xs = some ys) (hl : ys.isEmpty = xs.isEmpty) : froz n g (L sz xs) = some (L sz ys) := by
  unfold L
  simp only [froz, h, Option.map_some]
  rw [← hl, L_eta]; rfl

theorem froz_lst (n : Nat) (g : Nat → Nat) (xs : List α) : froz n g (lst xs) = some (lst xs) := froz_L n g _ _ _ (frozs_map n g xs) rfl

theorem froz_fam (n : Nat) (g : Nat → Nat) (τ g0 o s : Nat) (xs : List α) (h1 : g τ = g0) (h2 : n ≤ τ) (h3 : s = Enc.sz α ∨ xs = []) : froz n g (.sl (.fam τ g0 o) s (xs.map av)) = some (lst xs) := by
  simp only [froz, h1, h2, beq_self_eq_true, Bool.and_self, decide_true, if_true, frozs_map, Option.map_some, lst]
  rcases h3 with rfl | rfl <;> rfl

theorem frozs_append {n : Nat} {g : Nat → Nat} {xs ys xs' ys' : List AV} (h : frozs n g xs = some xs') (h' : frozs n g ys = some ys') : frozs n g (xs ++ ys) = some (xs' ++ ys') := by
  induction xs generalizing xs' with
  | nil => simp [frozs] at h; subst h; exact h'
  | cons x xs ih =>
    simp only [frozs] at h
    split at h
    · rename_i y zs h1 h2
      cases h
      simp [frozs, h1, ih h2]
    · cases h

theorem len_lst (xs : List α) : evLen false (lst xs) = some (.int .i64 xs.length) := by simp [lst, L, evLen]

theorem iadr_lst (sz : Nat) (xs : List α) (k : IntKind) (i : Int) (h0 : 0 ≤ i) (h1 : i < xs.length) (hs : sz = Enc.sz α) : evIadr sz (lst xs) (.int k i) = some (.ept .ro sz (xs.map av) i.toNat 0) := by
  cases xs with
  | nil => simp at h1; omega
  | cons x xs =>
    subst hs
    simp only [lst, List.map_cons, L_cons, evIadr]
    rw [if_pos]
    simp at h1 ⊢
    omega

theorem load_ept (st : St) (ag : Bool) (s sz : Nat) (c : Cap) (xs : List α) (i off : Nat) (x : α) (hx : xs[i]? = some x) (hc : okc st.gens c = true) (ho : off + s ≤ sz) : evLoad st ag s (.ept c sz (xs.map av) i off) = getR ag (av x).cells off s := by
  simp [evLoad, hc, ho, hx]

theorem src_lst (g : Nat → Nat) (sz : Nat) (xs : List α) (hs : sz = Enc.sz α) : srcOf g sz (lst xs) = some (xs.map av) := by
  subst hs
  cases xs with
  | nil => simp [lst, L, srcOf, okc]
  | cons x xs => simp [lst, L_cons, srcOf, okc]

instance : Enc (List α) where
  av := lst
  sz := 1
  ro x n g := froz_lst n g x
  cells _ := rfl
  ok _ := rfl

theorem slice_lst (id g sz : Nat) (xs : List α) (lo hi : Option AV) (l h : Nat) (hl : bnd 0 lo = some l) (hh : bnd xs.length hi = some h) (h1 : l ≤ h) (h2 : h ≤ xs.length) (hs : sz = Enc.sz α) :
    evSlice id g sz (lst xs) lo hi none = some (.sl .ro (if xs.isEmpty then 0 else sz) (((xs.take h).drop l).map av)) := by
  subst hs
  cases xs with
  | nil =>
    simp at h2; subst h2
    obtain rfl : l = 0 := by omega
    simp at hh
    simp [lst, L, evSlice, hl, hh, Cap.shift]
  | cons x xs =>
    simp only [List.map_cons, lst, L_cons, evSlice, hl]
    have : bnd (av x :: List.map av xs).length hi = some h := by simpa using hh
    rw [this]
    simp only
    rw [if_pos ⟨h1, by simpa using h2, .inl trivial⟩]
    simp [Cap.shift, List.map_take, List.map_drop]

end

/-! ### loops -/

/-- A loop whose rounds count up to `n`, or that is left on the way. -/
theorem loop_inv {f : Env → St → Option (X × Env × St)} (n : Nat) (Inv : Nat → Env → St → Prop) (Post : X → Env → St → Prop)
    (step : ∀ i e st, i ≤ n → Inv i e st → (∃ e' st', f e st = some (.normal, e', st') ∧ i < n ∧ Inv (i + 1) e' st') ∨ (∃ x e' st', f e st = some (x, e', st') ∧ x ≠ .normal ∧ Post x e' st')) :
    ∀ k i e st, i ≤ n → n < k + i → Inv i e st → ∃ x e' st', loopN f k e st = some (x, e', st') ∧ Post x e' st' := by
  intro k
  induction k with
  | zero => intro i e st h1 h2; omega
  | succ k ih =>
    intro i e st h1 h2 hI
    rcases step i e st h1 hI with ⟨e', st', h3, h4, h5⟩ | ⟨x, e', st', h3, h4, h5⟩
    · obtain ⟨x, e2, st2, h6, h7⟩ := ih (i + 1) e' st' h4 (by omega) h5
      exact ⟨x, e2, st2, by simp only [loopN, h3, Option.bind_some]; exact h6, h7⟩
    · refine ⟨x, e', st', ?_, h5⟩
      simp only [loopN, h3, Option.bind_some]

end Go.Ev
