/- Is a node too large to be looked at? -/
import Derived.Test.YtlidbfnamhgnlaaGreatDoorNdE
namespace Go.Ev.Nd
open Go Go.Ev
open Go.Ev.Enc (av)

def bigP (x : PairV) : Bool := decide ((x.key.size : Int) > 300) || decide ((x.val.size : Int) > 700)
def bigJ (x : JobV) : Bool := decide ((x.key.size : Int) > 300) || decide ((x.val.size : Int) > 700)
def bigR (x : ResV) : Bool := decide ((x.key.size : Int) > 300) || decide ((x.val.size : Int) > 700)

theorem loop_cps {f : Env → St → Option (X × Env × St)} {k : Nat} {e : Env} {st : St} {r : Option (X × Env × St)} (hc : loopN f k e st = r) (n : Nat) (Inv : Nat → Env → St → Prop) (Post : X → Env → St → Prop)
    (step : ∀ i e st, i ≤ n → Inv i e st → (∃ e' st', f e st = some (.normal, e', st') ∧ i < n ∧ Inv (i + 1) e' st') ∨ (∃ x e' st', f e st = some (x, e', st') ∧ x ≠ .normal ∧ Post x e' st')) (i : Nat) (hi : i ≤ n) (hk : n < k + i) (h0 : Inv i e st) :
    ∃ x e' st', r = some (x, e', st') ∧ Post x e' st' := by
  subst hc
  exact loop_inv n Inv Post step k i e st hi hk h0

theorem cells_pair (x : PairV) : (av x).cells = [.str x.key, .str x.val] := rfl

theorem any_take_false {α : Type} {p : α → Bool} {xs : List α} (h : ∀ x ∈ xs.take xs.length, p x = false) : xs.any p = false := by
  rw [List.take_length] at h
  rw [List.any_eq_false]
  intro x hx
  simp [h x hx]

theorem any_at_true {α : Type} {p : α → Bool} {xs : List α} {i : Nat} (hi : i < xs.length) (h : p xs[i] = true) : xs.any p = true := List.any_eq_true.2 ⟨_, List.getElem_mem hi, h⟩

theorem take_false {α : Type} {p : α → Bool} {xs : List α} {i : Nat} (hi : i < xs.length) (h : ∀ x ∈ xs.take i, p x = false) (h1 : p xs[i] = false) : ∀ x ∈ xs.take (i + 1), p x = false := by
  intro x hx
  rw [List.take_succ_eq_append_getElem hi] at hx
  rcases List.mem_append.1 hx with hx | hx
  · exact h x hx
  · simp at hx; subst hx; exact h1

theorem large29_tells (xs : List PairV) : Tells T 0 25 true [lst xs] (.bool (decide ((xs.length : Int) > 100) || xs.any bigP)) := by
  refine ⟨m25, TF F25, fun d st hd => ?_⟩
  by_cases h1 : (xs.length : Int) > 100
  · simp only [m25, go_sem, ↓reduceIte, Nat.add_assoc, Nat.add_left_cancel_iff, Nat.add_eq_left, Nat.left_eq_add, Nat.reduceEqDiff, Nat.reduceLeDiff, Nat.reduceAdd, Nat.reduceSub, Int.reduceLT, Int.reduceLE, Int.reduceGT, Int.reduceGE, Int.reduceEq, Int.reduceBEq, Int.reduceBNe, Int.reduceAdd, Int.reduceSub, Int.reduceNeg, Int.reduceToNat, beq_self_eq_true, bne_self_eq_false, Nat.add_zero, reduceCtorEq, h1]
    exact ⟨_, _, rfl, by (repeat (first | exact Keeps.base | (refine Keeps.copy rfl hN hs ?_ ?_ ?_) | exact Keeps.same (by assumption) _ | apply Keeps.box1 (n := 0) | apply Keeps.gen1 (n := 0) | omega)), by simp only [froz_tup, froz_agg, frozs_cons, frozs_nil, froz_int, froz_bool, froz_str, froz_nil, froz_lst, froz_fam_eq, frozs_map, frozs_app, Option.map_some, Nat.le_add_right, Bool.and_self, go_sem, ↓reduceIte, Nat.add_assoc, Nat.add_left_cancel_iff, Nat.add_eq_left, Nat.left_eq_add, Nat.reduceEqDiff, Nat.reduceLeDiff, Nat.reduceAdd, Nat.reduceSub, Int.reduceLT, Int.reduceLE, Int.reduceGT, Int.reduceGE, Int.reduceEq, Int.reduceBEq, Int.reduceBNe, Int.reduceAdd, Int.reduceSub, Int.reduceNeg, Int.reduceToNat, beq_self_eq_true, bne_self_eq_false, Nat.add_zero, reduceCtorEq, h1, Bool.true_or], fun _ => rfl⟩
  have hrd := Rd.lst st xs
  obtain ⟨x, e', st', hl, hk, hp⟩ := loop_inv (f := evC (callN T d 25) rounds m25l0) xs.length
    (fun i e z => e 0 = lst xs ∧ e 3 = .int .i64 (i : Nat) ∧ Keeps st z ∧ st.next ≤ z.next ∧ ∀ x ∈ xs.take i, bigP x = false)
    (fun x e z => Keeps st z ∧ ((x = .exit 0 ∧ xs.any bigP = false) ∨ (x = .ret ∧ e 2 = .bool true ∧ xs.any bigP = true)))
    (fun i e z hi ⟨h0, h3, hk, hn, hb⟩ => by
      by_cases hlt : i < xs.length
      · have hlt' : (i : Int) < xs.length := by omega
        have hrd' := hrd.mono hn hk
        have hx := List.getElem?_eq_getElem hlt
        by_cases hk1 : (xs[i].key.size : Int) > 300
        · right
          refine ⟨.ret, ?_⟩
          simp (disch := first | omega | decide) only [m25l0, go_sem, ↓reduceIte, Nat.add_assoc, Nat.add_left_cancel_iff, Nat.add_eq_left, Nat.left_eq_add, Nat.reduceEqDiff, Nat.reduceLeDiff, Nat.reduceAdd, Nat.reduceSub, Int.reduceLT, Int.reduceLE, Int.reduceGT, Int.reduceGE, Int.reduceEq, Int.reduceBEq, Int.reduceBNe, Int.reduceAdd, Int.reduceSub, Int.reduceNeg, Int.reduceToNat, beq_self_eq_true, bne_self_eq_false, Nat.add_zero, reduceCtorEq, h0, h3, hlt', hrd'.iadr (sz := 2) rfl (Int.natCast_nonneg i) hlt', Int.toNat_natCast, hrd'.fadr, hrd'.load hx, cells_pair, hk1]
          refine ⟨_, _, rfl, by simp, hk.same _, .inr ⟨?_, any_at_true hlt (by simp [bigP, hk1])⟩⟩
          simp only [go_sem, ↓reduceIte, Nat.add_assoc, Nat.add_left_cancel_iff, Nat.add_eq_left, Nat.left_eq_add, Nat.reduceEqDiff, Nat.reduceLeDiff, Nat.reduceAdd, Nat.reduceSub, Int.reduceLT, Int.reduceLE, Int.reduceGT, Int.reduceGE, Int.reduceEq, Int.reduceBEq, Int.reduceBNe, Int.reduceAdd, Int.reduceSub, Int.reduceNeg, Int.reduceToNat, beq_self_eq_true, bne_self_eq_false, Nat.add_zero, reduceCtorEq]
        · by_cases hv1 : (xs[i].val.size : Int) > 700
          · right
            refine ⟨.ret, ?_⟩
            simp (disch := first | omega | decide) only [m25l0, go_sem, ↓reduceIte, Nat.add_assoc, Nat.add_left_cancel_iff, Nat.add_eq_left, Nat.left_eq_add, Nat.reduceEqDiff, Nat.reduceLeDiff, Nat.reduceAdd, Nat.reduceSub, Int.reduceLT, Int.reduceLE, Int.reduceGT, Int.reduceGE, Int.reduceEq, Int.reduceBEq, Int.reduceBNe, Int.reduceAdd, Int.reduceSub, Int.reduceNeg, Int.reduceToNat, beq_self_eq_true, bne_self_eq_false, Nat.add_zero, reduceCtorEq, h0, h3, hlt', hrd'.iadr (sz := 2) rfl (Int.natCast_nonneg i) hlt', Int.toNat_natCast, hrd'.fadr, hrd'.load hx, cells_pair, hk1, hv1]
            refine ⟨_, _, rfl, by simp, hk.same _, .inr ⟨?_, any_at_true hlt (by simp [bigP, hv1])⟩⟩
            simp only [go_sem, ↓reduceIte, Nat.add_assoc, Nat.add_left_cancel_iff, Nat.add_eq_left, Nat.left_eq_add, Nat.reduceEqDiff, Nat.reduceLeDiff, Nat.reduceAdd, Nat.reduceSub, Int.reduceLT, Int.reduceLE, Int.reduceGT, Int.reduceGE, Int.reduceEq, Int.reduceBEq, Int.reduceBNe, Int.reduceAdd, Int.reduceSub, Int.reduceNeg, Int.reduceToNat, beq_self_eq_true, bne_self_eq_false, Nat.add_zero, reduceCtorEq]
          · left
            simp (disch := first | omega | decide) only [m25l0, go_sem, ↓reduceIte, Nat.add_assoc, Nat.add_left_cancel_iff, Nat.add_eq_left, Nat.left_eq_add, Nat.reduceEqDiff, Nat.reduceLeDiff, Nat.reduceAdd, Nat.reduceSub, Int.reduceLT, Int.reduceLE, Int.reduceGT, Int.reduceGE, Int.reduceEq, Int.reduceBEq, Int.reduceBNe, Int.reduceAdd, Int.reduceSub, Int.reduceNeg, Int.reduceToNat, beq_self_eq_true, bne_self_eq_false, Nat.add_zero, reduceCtorEq, h0, h3, hlt', hrd'.iadr (sz := 2) rfl (Int.natCast_nonneg i) hlt', Int.toNat_natCast, hrd'.fadr, hrd'.load hx, cells_pair, hk1, hv1, wrap_small]
            refine ⟨_, _, rfl, hlt, ?_, ?_, hk.same _, by simp only; omega, take_false hlt hb (by simp [bigP, hk1, hv1])⟩
            · simp only [go_sem, ↓reduceIte, Nat.add_assoc, Nat.add_left_cancel_iff, Nat.add_eq_left, Nat.left_eq_add, Nat.reduceEqDiff, Nat.reduceLeDiff, Nat.reduceAdd, Nat.reduceSub, Int.reduceLT, Int.reduceLE, Int.reduceGT, Int.reduceGE, Int.reduceEq, Int.reduceBEq, Int.reduceBNe, Int.reduceAdd, Int.reduceSub, Int.reduceNeg, Int.reduceToNat, beq_self_eq_true, bne_self_eq_false, Nat.add_zero, reduceCtorEq, h0]
            · simp only [go_sem, ↓reduceIte, Nat.add_assoc, Nat.add_left_cancel_iff, Nat.add_eq_left, Nat.left_eq_add, Nat.reduceEqDiff, Nat.reduceLeDiff, Nat.reduceAdd, Nat.reduceSub, Int.reduceLT, Int.reduceLE, Int.reduceGT, Int.reduceGE, Int.reduceEq, Int.reduceBEq, Int.reduceBNe, Int.reduceAdd, Int.reduceSub, Int.reduceNeg, Int.reduceToNat, beq_self_eq_true, bne_self_eq_false, Nat.add_zero, reduceCtorEq] <;> rfl
      · right
        obtain rfl : i = xs.length := by omega
        refine ⟨.exit 0, ?_⟩
        simp only [m25l0, go_sem, ↓reduceIte, Nat.add_assoc, Nat.add_left_cancel_iff, Nat.add_eq_left, Nat.left_eq_add, Nat.reduceEqDiff, Nat.reduceLeDiff, Nat.reduceAdd, Nat.reduceSub, Int.reduceLT, Int.reduceLE, Int.reduceGT, Int.reduceGE, Int.reduceEq, Int.reduceBEq, Int.reduceBNe, Int.reduceAdd, Int.reduceSub, Int.reduceNeg, Int.reduceToNat, beq_self_eq_true, bne_self_eq_false, Nat.add_zero, reduceCtorEq, h0, h3]
        exact ⟨_, _, rfl, by simp, hk.same _, .inl (any_take_false hb)⟩) rounds 0
    (upd (upd (upd (upd (upd (env0 [lst xs]) 2 (.bool false)) 4 (lst xs)) 5 (.int .i64 xs.length)) 6 (.bool false)) 3 (.int .i64 0)) ⟨st.next + 5, st.boxes, st.iters, st.gens⟩
    (Nat.zero_le _) (by unfold rounds; omega) ⟨by simp only [go_sem, ↓reduceIte, Nat.add_assoc, Nat.add_left_cancel_iff, Nat.add_eq_left, Nat.left_eq_add, Nat.reduceEqDiff, Nat.reduceLeDiff, Nat.reduceAdd, Nat.reduceSub, Int.reduceLT, Int.reduceLE, Int.reduceGT, Int.reduceGE, Int.reduceEq, Int.reduceBEq, Int.reduceBNe, Int.reduceAdd, Int.reduceSub, Int.reduceNeg, Int.reduceToNat, beq_self_eq_true, bne_self_eq_false, Nat.add_zero, reduceCtorEq], by simp only [go_sem, ↓reduceIte, Nat.add_assoc, Nat.add_left_cancel_iff, Nat.add_eq_left, Nat.left_eq_add, Nat.reduceEqDiff, Nat.reduceLeDiff, Nat.reduceAdd, Nat.reduceSub, Int.reduceLT, Int.reduceLE, Int.reduceGT, Int.reduceGE, Int.reduceEq, Int.reduceBEq, Int.reduceBNe, Int.reduceAdd, Int.reduceSub, Int.reduceNeg, Int.reduceToNat, beq_self_eq_true, bne_self_eq_false, Nat.add_zero, reduceCtorEq] <;> rfl, Keeps.base, by simp only; omega, by simp⟩
  rcases hp with ⟨rfl, hp⟩ | ⟨rfl, hp1, hp⟩
  · simp only [m25, go_sem, ↓reduceIte, Nat.add_assoc, Nat.add_left_cancel_iff, Nat.add_eq_left, Nat.left_eq_add, Nat.reduceEqDiff, Nat.reduceLeDiff, Nat.reduceAdd, Nat.reduceSub, Int.reduceLT, Int.reduceLE, Int.reduceGT, Int.reduceGE, Int.reduceEq, Int.reduceBEq, Int.reduceBNe, Int.reduceAdd, Int.reduceSub, Int.reduceNeg, Int.reduceToNat, beq_self_eq_true, bne_self_eq_false, Nat.add_zero, reduceCtorEq, h1, hl]
    exact ⟨_, _, rfl, hk.same _, by simp only [froz_tup, froz_agg, frozs_cons, frozs_nil, froz_int, froz_bool, froz_str, froz_nil, froz_lst, froz_fam_eq, frozs_map, frozs_app, Option.map_some, Nat.le_add_right, Bool.and_self, go_sem, ↓reduceIte, Nat.add_assoc, Nat.add_left_cancel_iff, Nat.add_eq_left, Nat.left_eq_add, Nat.reduceEqDiff, Nat.reduceLeDiff, Nat.reduceAdd, Nat.reduceSub, Int.reduceLT, Int.reduceLE, Int.reduceGT, Int.reduceGE, Int.reduceEq, Int.reduceBEq, Int.reduceBNe, Int.reduceAdd, Int.reduceSub, Int.reduceNeg, Int.reduceToNat, beq_self_eq_true, bne_self_eq_false, Nat.add_zero, reduceCtorEq, h1, hp, Bool.or_self], fun _ => rfl⟩
  · simp only [m25, go_sem, ↓reduceIte, Nat.add_assoc, Nat.add_left_cancel_iff, Nat.add_eq_left, Nat.left_eq_add, Nat.reduceEqDiff, Nat.reduceLeDiff, Nat.reduceAdd, Nat.reduceSub, Int.reduceLT, Int.reduceLE, Int.reduceGT, Int.reduceGE, Int.reduceEq, Int.reduceBEq, Int.reduceBNe, Int.reduceAdd, Int.reduceSub, Int.reduceNeg, Int.reduceToNat, beq_self_eq_true, bne_self_eq_false, Nat.add_zero, reduceCtorEq, h1, hl, hp1]
    exact ⟨_, _, rfl, hk, by simp only [froz_tup, froz_agg, frozs_cons, frozs_nil, froz_int, froz_bool, froz_str, froz_nil, froz_lst, froz_fam_eq, frozs_map, frozs_app, Option.map_some, Nat.le_add_right, Bool.and_self, go_sem, ↓reduceIte, Nat.add_assoc, Nat.add_left_cancel_iff, Nat.add_eq_left, Nat.left_eq_add, Nat.reduceEqDiff, Nat.reduceLeDiff, Nat.reduceAdd, Nat.reduceSub, Int.reduceLT, Int.reduceLE, Int.reduceGT, Int.reduceGE, Int.reduceEq, Int.reduceBEq, Int.reduceBNe, Int.reduceAdd, Int.reduceSub, Int.reduceNeg, Int.reduceToNat, beq_self_eq_true, bne_self_eq_false, Nat.add_zero, reduceCtorEq, h1, hp, Bool.or_true], fun _ => rfl⟩

end Go.Ev.Nd
