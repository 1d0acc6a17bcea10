/- The primitives of lists as the evaluator calls them, and a program's functions as they are compiled. -/
import Derived.Test.YtlidbfnamhgnlaaGreatDoorEvZa
namespace Go.Ev
open Go

/-- A program's function, compiled. -/
def progF (P : Program) (f : Nat) : Option MF :=
  match P.funcs[f]? with
  | some fn => if fn.name == "runtime.NumGoroutine" then none else compF P fn
  | none => none

theorem progF_ok {P : Program} (f : Nat) (mf : MF) (h : progF P f = some mf) : ∃ fn, P.funcs[f]? = some fn ∧ compF P fn = some mf ∧ (fn.name == "runtime.NumGoroutine") = false := by
  simp only [progF] at h
  split at h
  · rename_i fn hfn
    split at h
    · cases h
    · rename_i hn
      exact ⟨fn, hfn, h, by simpa using hn⟩
  · cases h

def isNone' : List AV → Bool
  | [] => true
  | _ => false

theorem isNone'_ok {xs : List AV} (h : isNone' xs = true) : xs = [] := by
  cases xs with
  | nil => rfl
  | cons => cases h

def clonePrim (sz lim : Nat) : List AV → St → Option (AV × St)
  | [.sl c s xs], st => if okc st.gens c && (decide (s = sz) || isNone' xs) && decide (xs.length ≤ lim) then some (.sl (.fam st.next (st.gens st.next) 0) sz xs, { st with next := st.next + 1 }) else none
  | _, _ => none

def insertPrim (sz lim : Nat) : List AV → St → Option (AV × St)
  | [.sl c s xs, .int .i64 i, .sl c' s' ys], st =>
    if appOk st.gens c && (decide (s = sz) || decide (c = .nil)) && okc st.gens c' && decide (s' = sz) && !isNone' ys && decide (xs.length + ys.length ≤ lim) && decide (i = xs.length) then
      some (.sl (.fam (st.next + 17) (appGens st.gens c (st.next + 17)) 0) sz (xs ++ ys), ⟨st.next + 19, st.boxes, st.iters, appGens st.gens c⟩) else none
  | _, _ => none

def deletePrim (sz lim : Nat) : List AV → St → Option (AV × St)
  | [.sl (.fam τ g o) s xs, .int .i64 i, .int .i64 j], st => if decide (s = sz) && decide (st.gens τ = g) && decide (0 ≤ i) && decide (i < j) && decide (j.toNat ≤ xs.length) && decide (xs.length ≤ lim) then
     some (.sl (.fam st.next (st.gens st.next) 0) sz (xs.take i.toNat ++ xs.drop j.toNat), { st with next := st.next + 1, gens := upd st.gens τ (g + 1) }) else none
  | _, _ => none

def isTrue' : Option (AV × St) → Bool
  | some (.bool true, _) => true
  | _ => false

theorem isTrue'_ok {r : Option (AV × St)} (h : isTrue' r = true) : ∃ st, r = some (.bool true, st) := by
  match r with
  | some (.bool true, st) => exact ⟨st, rfl⟩
  | some (.bool false, _) => cases h
  | none => cases h
  | some (.junk, _) | some (.int _ _, _) | some (.str _, _) | some (.sl _ _ _, _) | some (.agg _, _) | some (.ptr _ _, _) | some (.nilp, _) | some (.ept _ _ _ _ _, _) | some (.fn _ _, _) | some (.nilf, _) | some (.ifc _ _, _)
  | some (.nili, _) | some (.tup _, _) | some (.it _, _) => cases h
end Go.Ev
