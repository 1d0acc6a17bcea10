/- slices.DeleteFunc, whatever its elements are: what it tells. -/
import Derived.Test.YtlidbfnamhgnlaaGreatDoorEvLa
namespace Go.Ev
open Go
open Enc (av)

def delL (sz : Nat) (z : List AV) : MC :=
  (.seq (.seq (.reg 4 [⟨some 16, none, .mv (.t 6), 0, 0⟩, ⟨some 17, none, .mv (.t 0), 0, 0⟩, ⟨some 18, none, .len false (.t 17), 0, 0⟩, ⟨some 19, none, .bin .lss (.t 16) (.t 18), 0, 0⟩]) (.cond (.t 19) .skip (.exit 0))) (.seq (.block 1 (.seq
  (.reg 6 [⟨some 22, none, .mv (.t 0), 0, 0⟩, ⟨some 23, none, .mv (.t 6), 0, 0⟩, ⟨some 24, none, .iadr sz (.t 22) (.t 23), 0, 0⟩, ⟨some 25, none, .load true sz (.t 24), 0, 0⟩, ⟨some 7, none, .alloc 4 z, 0, 0⟩,
  ⟨none, none, .store sz (.t 7) (.t 25) none, 0, 0⟩]) (.seq (.reg 4 [⟨some 26, none, .mv (.t 1), 0, 0⟩, ⟨some 27, none, .load true sz (.t 7), 0, 0⟩, ⟨some 28, none, .callV (.t 26) [(.t 27)], 0, 0⟩, ⟨some 29, none, .un .not (.t 28), 0, 0⟩])
  (.cond (.t 29) (.seq (.reg 5 [⟨some 30, none, .mv (.t 0), 0, 0⟩, ⟨some 31, none, .mv (.t 5), 0, 0⟩, ⟨some 32, none, .load true sz (.t 7), 0, 0⟩, ⟨some 33, none, .iadr sz (.t 30) (.t 31), 0, 0⟩, ⟨none, none, .store sz (.t 33) (.t 32) (some
  (.slot 0)), 0, 0⟩]) (.reg 3 [⟨some 34, none, .mv (.t 5), 0, 0⟩, ⟨some 35, none, .bin .add (.t 34) (.c (.int .i64 1)), 0, 0⟩, ⟨some 5, none, .mv (.t 35), 0, 0⟩])) .skip)))) (.reg 3 [⟨some 20, none, .mv (.t 6), 0, 0⟩, ⟨some 21, none, .bin
  .add (.t 20) (.c (.int .i64 1)), 0, 0⟩, ⟨some 6, none, .mv (.t 21), 0, 0⟩])))

def delMF (k sz : Nat) (z : List AV) : MF :=
  ⟨42, (.seq (.reg 1 [⟨some 4, none, .mv (.c (.sl .nil 0 [])), 0, 0⟩]) (.seq (.reg 4 [⟨some 8, none, .mv (.t 0), 0, 0⟩, ⟨some 9, none, .mv (.t 1), 0, 0⟩, ⟨some 10, none, .call k [(.t 8), (.t 9)], 0, 0⟩, ⟨some 5, none, .mv (.t 10), 0, 0⟩])
  (.seq (.seq (.reg 2 [⟨some 11, none, .mv (.t 5), 0, 0⟩, ⟨some 12, none, .bin .eql (.t 11) (.c (.int .i64 (-1))), 0, 0⟩]) (.cond (.t 12) (.seq (.reg 2 [⟨some 13, none, .mv (.t 0), 0, 0⟩, ⟨some 4, none, .mv (.t 13), 0, 0⟩]) .ret) .skip))
  (.seq (.seq (.reg 3 [⟨some 14, none, .mv (.t 5), 0, 0⟩, ⟨some 15, none, .bin .add (.t 14) (.c (.int .i64 1)), 0, 0⟩, ⟨some 6, none, .mv (.t 15), 0, 0⟩]) (.block 0 (.loop (delL sz z)))) (.seq (.reg 4 [⟨some 36, none, .mv (.t 0), 0, 0⟩, ⟨some 37,
  none, .mv (.t 5), 0, 0⟩, ⟨some 38, none, .slice 2 sz (.t 36) (some (.t 37)) none none, 0, 0⟩, ⟨none, none, .clear sz (.agg z) (.t 38) (.slot 0), 0, 0⟩]) (.seq (.reg 4 [⟨some 39, none, .mv (.t 0), 0, 0⟩, ⟨some
  40, none, .mv (.t 5), 0, 0⟩, ⟨some 41, none, .slice 2 sz (.t 39) none (some (.t 40)) none, 0, 0⟩, ⟨some 4, none, .mv (.t 41), 0, 0⟩]) .ret)))))), [(.tmp 4)]⟩

theorem ok_all {α : Type} [Enc α] (x : α) : (av x).cells.all scalar = true := Enc.ok x

theorem recell_av {α : Type} [Enc α] (y x : α) (h : Enc.sz α ≠ 1) : recell (av y) (av x).cells = av x := by
  have h1 := Enc.cells y
  have h2 := av_agg x h
  cases hy : av y <;> rw [hy] at h1 <;> first | exact h2 | (simp [AV.cells] at h1; omega)

theorem setR_av {α : Type} [Enc α] (y x : α) : setR (av y).cells 0 (av x).cells = some (av x).cells := by
  simp only [setR, Enc.cells, Nat.zero_add, Nat.le_refl, if_true, List.take_zero, List.nil_append]
  rw [List.drop_eq_nil_of_le (by rw [Enc.cells]; exact Nat.le_refl _), List.append_nil]

theorem store_elt {α : Type} [Enc α] {e : Env} {st : St} {t τ g o sz i : Nat} {xs : List α} {x : α} (hsz : sz = Enc.sz α) (hs1 : Enc.sz α ≠ 1) (hv : e t = .sl (.fam τ g o) sz (xs.map av)) (hg : st.gens τ = g) (hi : i < xs.length) :
    evStore e st sz (elt (.sl (.fam τ g o) sz (xs.map av)) i 0) (av x) (some (.slot t)) = some (upd e t (.sl (.fam τ (g + 1) o) sz ((xs.set i x).map av)), ⟨st.next, st.boxes, st.iters, upd st.gens τ (g + 1)⟩) := by
  subst hsz
  have hx : (xs.map av)[i]? = some (av xs[i]) := by simp [hi]
  simp only [elt, evStore, Enc.cells, Enc.ok, and_self, if_true, plGet, hv, hg, hx, Option.bind_some, setR_av, plSet, recell_av _ _ hs1, List.map_set]

def clrG {α : Type} : List α → Nat → Nat
  | [], g => g
  | _ :: _, g => g + 1

theorem clear_elt {α : Type} [Enc α] {e : Env} {n t τ g o o' sz : Nat} {b : Nat → Option (List AV)} {it : Nat → Option (ByteArray × Nat)} {gs : Nat → Nat} {xs ys : List α} {z : AV} (hsz : sz = Enc.sz α) (hg : gs τ = g) (ho : o' = o + (xs.length - ys.length)) (hl : ys.length ≤ xs.length) (hv : e t = .sl (.fam τ g o) sz (xs.map av)) :
    evClear e ⟨n, b, it, gs⟩ sz z (.sl (.fam τ g o') sz (ys.map av)) (.slot t) = some (upd e t (.sl (.fam τ (clrG ys g) o) sz ((xs.take (xs.length - ys.length)).map av ++ List.replicate ys.length z)), ⟨n, b, it, upd gs τ (clrG ys g)⟩) := by
  cases ys with
  | nil =>
    simp only [List.map_nil, evClear, List.length_nil, Nat.sub_zero, List.take_length, List.replicate_zero, List.append_nil, clrG, ← hv]
    have h1 : upd e t (e t) = e := by
      funext j; simp only [upd]; split
      · rename_i h; rw [h]
      · rfl
    have h2 : upd gs τ g = gs := by
      funext j; simp only [upd]; split
      · rename_i h; rw [h, hg]
      · rfl
    rw [h1, h2]
  | cons y ys =>
    subst hsz
    simp only [List.map_cons, evClear, plGet, hv]
    rw [if_pos]
    · simp only [plSet, Option.some.injEq, Prod.mk.injEq, and_true, clrG]
      congr 2
      simp only [List.length_cons, List.length_map]
      rw [show o' - o = xs.length - (ys.length + 1) by simp at ho; omega]
      rw [← List.map_take]
      congr 2
      rw [List.drop_eq_nil_of_le (by simp at hl ⊢; omega), List.append_nil]
    · simp at hl ho ⊢
      exact ⟨by omega, hg, by omega⟩

theorem setR_full {α : Type} [Enc α] (z : List AV) (x : α) (hz : z.length = Enc.sz α) : setR z 0 (av x).cells = some (av x).cells := by
  simp only [setR, Enc.cells, Nat.zero_add, hz, Nat.le_refl, if_true, List.take_zero, List.nil_append]
  rw [List.drop_eq_nil_of_le (by omega), List.append_nil]

theorem slice_from (id g sz : Nat) (c : Cap) (xs : List AV) (k : IntKind) (i : Nat) (h : i ≤ xs.length) : evSlice id g sz (.sl c sz xs) (some (.int k i)) none none = some (.sl (c.shift i) sz (xs.drop i)) := by
  simp only [evSlice, bnd, natOf, Int.natCast_nonneg, if_true, Int.toNat_natCast]
  rw [if_pos ⟨h, Nat.le_refl _, .inl trivial⟩, List.take_length]

theorem slice_to (id g sz : Nat) (c : Cap) (xs : List AV) (k : IntKind) (i : Nat) (h : i ≤ xs.length) : evSlice id g sz (.sl c sz xs) none (some (.int k i)) none = some (.sl (c.shift 0) sz (xs.take i)) := by
  simp only [evSlice, bnd, natOf, Int.natCast_nonneg, if_true, Int.toNat_natCast]
  rw [if_pos ⟨Nat.zero_le _, h, .inl trivial⟩, List.drop_zero]

/-- All is kept but one family. -/
structure KeepsX (st : St) (τ : Nat) (st1 : St) : Prop where
  box : ∀ id, id < st.next → st1.boxes id = st.boxes id
  iter : ∀ id, id < st.next → st1.iters id = st.iters id
  gens : ∀ k, k < st.next → k ≠ τ → st1.gens k = st.gens k

theorem KeepsX.same {st s : St} {τ : Nat} (h : KeepsX st τ s) (n : Nat) : KeepsX st τ ⟨n, s.boxes, s.iters, s.gens⟩ := ⟨h.box, h.iter, h.gens⟩
theorem KeepsX.bx {st s : St} {τ : Nat} (h : KeepsX st τ s) (n k : Nat) (v : Option (List AV)) (hk : st.next ≤ k) : KeepsX st τ ⟨n, upd s.boxes k v, s.iters, s.gens⟩ :=
  ⟨fun j hj => by simp only [upd]; rw [if_neg (by omega)]; exact h.box j hj, h.iter, h.gens⟩
theorem KeepsX.gn {st s : St} {τ : Nat} (h : KeepsX st τ s) (n g : Nat) : KeepsX st τ ⟨n, s.boxes, s.iters, upd s.gens τ g⟩ :=
  ⟨h.box, h.iter, fun j hj hne => by simp only [upd]; rw [if_neg hne]; exact h.gens j hj hne⟩

theorem indexF_spec {α : Type} (p : α → Bool) : ∀ xs : List α, (indexF p xs = -1 ∧ ∀ x ∈ xs, p x = false) ∨ ∃ m, ∃ h : m < xs.length, indexF p xs = (m : Nat) ∧ (∀ x ∈ xs.take m, p x = false) ∧ p xs[m] = true := by
  intro xs
  induction xs with
  | nil => exact .inl ⟨rfl, fun x hx => by simp at hx⟩
  | cons x xs ih =>
    cases hx : p x with
    | true => exact .inr ⟨0, by simp, by simp [indexF, hx], by simp, by simpa using hx⟩
    | false =>
      rcases ih with ⟨h1, h2⟩ | ⟨m, h, h1, h2, h3⟩
      · exact .inl ⟨by simp [indexF, hx, h1], fun y hy => by rcases List.mem_cons.1 hy with rfl | hy; exact hx; exact h2 y hy⟩
      · refine .inr ⟨m + 1, by simpa using h, ?_, ?_, by simpa using h3⟩
        · simp [indexF, hx, h1]; omega
        · intro y hy
          simp only [List.take_succ_cons, List.mem_cons] at hy
          rcases hy with rfl | hy
          · exact hx
          · exact h2 y hy

theorem del_eval {α : Type} [Enc α] {call : Nat → List AV → St → Option (AV × St)} {f k : Nat} {cs : List AV} {sz : Nat} {z : List AV} (hs : sz = Enc.sz α) (hs1 : Enc.sz α ≠ 1) (hz : z.length = Enc.sz α) {xs : List α} {p : α → Bool} {τ g o : Nat} {st : St} (hτ : τ < st.next) (hg : st.gens τ = g) (hlen : xs.length < 1000000000000)
    (hidx : ∀ n, st.next ≤ n → call k [.sl (.fam τ g o) sz (xs.map av), .fn f cs] ⟨n, st.boxes, st.iters, st.gens⟩ = some (.int .i64 (indexF p xs), ⟨n, st.boxes, st.iters, st.gens⟩))
    (hcall : ∀ x ∈ xs, ∀ st', st.next ≤ st'.next → KeepsX st τ st' → call f (av x :: cs) st' = some (.bool (p x), st')) :
    ∃ g' st1, evFn call rounds (delMF k sz z) [.sl (.fam τ g o) sz (xs.map av), .fn f cs] st = some (.sl (.fam τ g' o) sz ((xs.filter fun x => !p x).map av), st1) ∧ st.next ≤ st1.next ∧ KeepsX st τ st1 ∧ st1.gens τ = g' := by
  rcases indexF_spec p xs with ⟨hi, hall⟩ | ⟨m, hm, hi, hbef, hat⟩
  · refine ⟨g, ⟨st.next + 9, st.boxes, st.iters, st.gens⟩, ?_, by simp only; omega, ⟨fun _ _ => rfl, fun _ _ => rfl, fun _ _ _ => rfl⟩, hg⟩
    simp (disch := omega) only [delMF, go_sem, ↓reduceIte, Nat.add_assoc, Nat.add_left_cancel_iff, Nat.add_eq_left, Nat.left_eq_add, Nat.reduceEqDiff, Nat.reduceLeDiff, Nat.reduceAdd, Nat.reduceSub, Int.reduceLT, Int.reduceLE, Int.reduceGT, Int.reduceGE, Int.reduceEq, Int.reduceBEq, Int.reduceBNe, Int.reduceAdd, Int.reduceSub, Int.reduceNeg, Int.reduceToNat, beq_self_eq_true, bne_self_eq_false, Nat.add_zero, reduceCtorEq, hidx, hi]
    rw [List.filter_eq_self.2 (fun x hx => by simp [hall x hx])]
  · have hneg : ((m : Int) == -1) = false := by simp
    have hq : ∀ x, (fun x => !p x) x = !p x := fun _ => rfl
    have hkeep : (xs.take m).filter (fun x => !p x) = xs.take m := List.filter_eq_self.2 (fun x hx => by simp [hbef x hx])
    have hstart : (xs.take (m + 1)).filter (fun x => !p x) = xs.take m := by
      rw [List.take_succ_eq_append_getElem hm, List.filter_append, hkeep]
      simp [hat]
    obtain ⟨x, e', st', hl, g', ys, c, hx, h0, h5, hlen', hyt, hgg, hkx, hnn⟩ := loop_inv (f := evC call rounds (delL sz z)) xs.length
      (fun j e s => ∃ (g' : Nat) (ys : List α) (c : Nat), e 0 = .sl (.fam τ g' o) sz (ys.map av) ∧ e 1 = .fn f cs ∧ e 6 = .int .i64 (j : Nat) ∧ e 5 = .int .i64 (c : Nat) ∧ c = ((xs.take j).filter fun x => !p x).length ∧ ys.length = xs.length ∧ ys.take c = (xs.take j).filter (fun x => !p x) ∧ ys.drop j = xs.drop j ∧ c < j ∧
        s.gens τ = g' ∧ KeepsX st τ s ∧ st.next ≤ s.next)
      (fun x e s => ∃ (g' : Nat) (ys : List α) (c : Nat), x = .exit 0 ∧ e 0 = .sl (.fam τ g' o) sz (ys.map av) ∧ e 5 = .int .i64 (c : Nat) ∧ c ≤ ys.length ∧ ys.take c = xs.filter (fun x => !p x) ∧ s.gens τ = g' ∧ KeepsX st τ s ∧ st.next ≤ s.next)
      (fun j e s hj ⟨g', ys, c, h0, h1, h6, h5, hc, hyl, hyt, hyd, hcj, hgg, hkx, hnn⟩ => by
        by_cases hlt : j < xs.length
        · left
          have hlt' : (j : Int) < (ys.length : Int) := by omega
          have hxj : ys[j]? = some xs[j] := by
            have h8 : (ys.drop j)[0]? = (xs.drop j)[0]? := by rw [hyd]
            simpa [hlt] using h8
          have hrd : Rd s (.sl (.fam τ g' o) sz (ys.map av)) ys := ⟨_, _, rfl, .inl hs, .inr (.inr ⟨τ, g', o, rfl, by omega, hgg⟩)⟩
          have hcl : ∀ n b, s.next ≤ n → b = upd s.boxes (s.next + 8) (some (av xs[j]).cells) → call f (av xs[j] :: cs) ⟨n, b, s.iters, s.gens⟩ = some (.bool (p xs[j]), ⟨n, b, s.iters, s.gens⟩) := fun n b hn hb => by
            subst hb
            exact hcall xs[j] (by simp) _ (by simp only; omega) (hkx.bx n _ _ (by omega))
          have hfil : (xs.take (j + 1)).filter (fun x => !p x) = (xs.take j).filter (fun x => !p x) ++ (if p xs[j] = true then [] else [xs[j]]) := by
            rw [List.take_succ_eq_append_getElem hlt, List.filter_append]
            congr 1
            cases hp : p xs[j] <;> simp [hp]
          have hdrop : ys.drop (j + 1) = xs.drop (j + 1) := by
            rw [← List.drop_drop, ← List.drop_drop, hyd]
          cases hpi : p xs[j] with
          | true =>
            rw [hpi] at hcl hfil
            simp (disch := first | omega | rfl) only [delL, go_sem, ↓reduceIte, Nat.add_assoc, Nat.add_left_cancel_iff, Nat.add_eq_left, Nat.left_eq_add, Nat.reduceEqDiff, Nat.reduceLeDiff, Nat.reduceAdd, Nat.reduceSub, Int.reduceLT, Int.reduceLE, Int.reduceGT, Int.reduceGE, Int.reduceEq, Int.reduceBEq, Int.reduceBNe, Int.reduceAdd, Int.reduceSub, Int.reduceNeg, Int.reduceToNat, beq_self_eq_true, bne_self_eq_false, Nat.add_zero, reduceCtorEq, h0, h1, h6, h5, evLen_sl', List.length_map, hlt', hrd.iadr hs (Int.natCast_nonneg j) hlt', Int.toNat_natCast, hrd.load hxj, getR_whole _ sz hs hs1, setR_full z _ hz, hcl, evUn, wrap_small, ok_all, Enc.cells, ← hs]
            refine ⟨_, _, rfl, hlt, g', ys, c, ?_, ?_, ?_, ?_, ?_, hyl, ?_, hdrop, by omega, hgg, hkx.bx _ _ _ (by omega), by simp only; omega⟩
            · simp only [go_sem, ↓reduceIte, Nat.add_assoc, Nat.add_left_cancel_iff, Nat.add_eq_left, Nat.left_eq_add, Nat.reduceEqDiff, Nat.reduceLeDiff, Nat.reduceAdd, Nat.reduceSub, Int.reduceLT, Int.reduceLE, Int.reduceGT, Int.reduceGE, Int.reduceEq, Int.reduceBEq, Int.reduceBNe, Int.reduceAdd, Int.reduceSub, Int.reduceNeg, Int.reduceToNat, beq_self_eq_true, bne_self_eq_false, Nat.add_zero, reduceCtorEq, h0]
            · simp only [go_sem, ↓reduceIte, Nat.add_assoc, Nat.add_left_cancel_iff, Nat.add_eq_left, Nat.left_eq_add, Nat.reduceEqDiff, Nat.reduceLeDiff, Nat.reduceAdd, Nat.reduceSub, Int.reduceLT, Int.reduceLE, Int.reduceGT, Int.reduceGE, Int.reduceEq, Int.reduceBEq, Int.reduceBNe, Int.reduceAdd, Int.reduceSub, Int.reduceNeg, Int.reduceToNat, beq_self_eq_true, bne_self_eq_false, Nat.add_zero, reduceCtorEq, h1]
            · simp only [go_sem, ↓reduceIte, Nat.add_assoc, Nat.add_left_cancel_iff, Nat.add_eq_left, Nat.left_eq_add, Nat.reduceEqDiff, Nat.reduceLeDiff, Nat.reduceAdd, Nat.reduceSub, Int.reduceLT, Int.reduceLE, Int.reduceGT, Int.reduceGE, Int.reduceEq, Int.reduceBEq, Int.reduceBNe, Int.reduceAdd, Int.reduceSub, Int.reduceNeg, Int.reduceToNat, beq_self_eq_true, bne_self_eq_false, Nat.add_zero, reduceCtorEq] <;> rfl
            · simp only [go_sem, ↓reduceIte, Nat.add_assoc, Nat.add_left_cancel_iff, Nat.add_eq_left, Nat.left_eq_add, Nat.reduceEqDiff, Nat.reduceLeDiff, Nat.reduceAdd, Nat.reduceSub, Int.reduceLT, Int.reduceLE, Int.reduceGT, Int.reduceGE, Int.reduceEq, Int.reduceBEq, Int.reduceBNe, Int.reduceAdd, Int.reduceSub, Int.reduceNeg, Int.reduceToNat, beq_self_eq_true, bne_self_eq_false, Nat.add_zero, reduceCtorEq, h5]
            · rw [hfil]; simpa using hc
            · rw [hfil]; simpa using hyt
          | false =>
            rw [hpi] at hcl hfil
            have hcx : c < ys.length := by omega
            have hc' : (c : Int) < ys.length := by omega
            have hstr : ∀ (e : Env) (n : Nat) (b : Nat → Option (List AV)), e 0 = .sl (.fam τ g' o) sz (ys.map av) → evStore e ⟨n, b, s.iters, s.gens⟩ sz (elt (.sl (.fam τ g' o) sz (ys.map av)) c 0) (av xs[j]) (some (.slot 0)) = some (upd e 0 (.sl (.fam τ (g' + 1) o) sz ((ys.set c xs[j]).map av)), ⟨n, b, s.iters, upd s.gens τ (g' + 1)⟩) :=
              fun e n b he => store_elt hs hs1 he hgg hcx
            simp (disch := first | omega | rfl | (simp only [upd_app, Nat.reduceEqDiff, ↓reduceIte, h0])) only [delL, go_sem, ↓reduceIte, Nat.add_assoc, Nat.add_left_cancel_iff, Nat.add_eq_left, Nat.left_eq_add, Nat.reduceEqDiff, Nat.reduceLeDiff, Nat.reduceAdd, Nat.reduceSub, Int.reduceLT, Int.reduceLE, Int.reduceGT, Int.reduceGE, Int.reduceEq, Int.reduceBEq, Int.reduceBNe, Int.reduceAdd, Int.reduceSub, Int.reduceNeg, Int.reduceToNat, beq_self_eq_true, bne_self_eq_false, Nat.add_zero, reduceCtorEq, h0, h1, h6, h5, evLen_sl', List.length_map, hlt', hrd.iadr hs (Int.natCast_nonneg j) hlt', hrd.load hxj, getR_whole _ sz hs hs1, setR_full z _ hz, hcl, evUn, wrap_small, ok_all, Enc.cells, ← hs,
              hrd.iadr hs (Int.natCast_nonneg c) hc', Int.toNat_natCast, hstr]
            refine ⟨_, _, rfl, hlt, g' + 1, ys.set c xs[j], c + 1, ?_, ?_, ?_, ?_, ?_, by simpa using hyl, ?_, ?_, by omega, ?_, (hkx.bx s.next _ _ (by omega)).gn _ _, by simp only; omega⟩
            · simp only [go_sem, ↓reduceIte, Nat.add_assoc, Nat.add_left_cancel_iff, Nat.add_eq_left, Nat.left_eq_add, Nat.reduceEqDiff, Nat.reduceLeDiff, Nat.reduceAdd, Nat.reduceSub, Int.reduceLT, Int.reduceLE, Int.reduceGT, Int.reduceGE, Int.reduceEq, Int.reduceBEq, Int.reduceBNe, Int.reduceAdd, Int.reduceSub, Int.reduceNeg, Int.reduceToNat, beq_self_eq_true, bne_self_eq_false, Nat.add_zero, reduceCtorEq]
            · simp only [go_sem, ↓reduceIte, Nat.add_assoc, Nat.add_left_cancel_iff, Nat.add_eq_left, Nat.left_eq_add, Nat.reduceEqDiff, Nat.reduceLeDiff, Nat.reduceAdd, Nat.reduceSub, Int.reduceLT, Int.reduceLE, Int.reduceGT, Int.reduceGE, Int.reduceEq, Int.reduceBEq, Int.reduceBNe, Int.reduceAdd, Int.reduceSub, Int.reduceNeg, Int.reduceToNat, beq_self_eq_true, bne_self_eq_false, Nat.add_zero, reduceCtorEq, h1]
            · simp only [go_sem, ↓reduceIte, Nat.add_assoc, Nat.add_left_cancel_iff, Nat.add_eq_left, Nat.left_eq_add, Nat.reduceEqDiff, Nat.reduceLeDiff, Nat.reduceAdd, Nat.reduceSub, Int.reduceLT, Int.reduceLE, Int.reduceGT, Int.reduceGE, Int.reduceEq, Int.reduceBEq, Int.reduceBNe, Int.reduceAdd, Int.reduceSub, Int.reduceNeg, Int.reduceToNat, beq_self_eq_true, bne_self_eq_false, Nat.add_zero, reduceCtorEq] <;> rfl
            · simp only [go_sem, ↓reduceIte, Nat.add_assoc, Nat.add_left_cancel_iff, Nat.add_eq_left, Nat.left_eq_add, Nat.reduceEqDiff, Nat.reduceLeDiff, Nat.reduceAdd, Nat.reduceSub, Int.reduceLT, Int.reduceLE, Int.reduceGT, Int.reduceGE, Int.reduceEq, Int.reduceBEq, Int.reduceBNe, Int.reduceAdd, Int.reduceSub, Int.reduceNeg, Int.reduceToNat, beq_self_eq_true, bne_self_eq_false, Nat.add_zero, reduceCtorEq] <;> rfl
            · rw [hfil]; simpa using hc
            · rw [hfil, if_neg (by simp), ← hyt]
              rw [List.take_succ_eq_append_getElem (by simpa using hcx), List.take_set, List.set_eq_of_length_le (by simp; omega)]
              simp
            · rw [← hdrop, List.drop_set_of_lt (by omega)]
            · simp [upd]
        · right
          obtain rfl : j = xs.length := by omega
          have hlt' : ¬ ((xs.length : Nat) : Int) < (ys.length : Int) := by omega
          refine ⟨.exit 0, ?_⟩
          simp only [delL, go_sem, ↓reduceIte, Nat.add_assoc, Nat.add_left_cancel_iff, Nat.add_eq_left, Nat.left_eq_add, Nat.reduceEqDiff, Nat.reduceLeDiff, Nat.reduceAdd, Nat.reduceSub, Int.reduceLT, Int.reduceLE, Int.reduceGT, Int.reduceGE, Int.reduceEq, Int.reduceBEq, Int.reduceBNe, Int.reduceAdd, Int.reduceSub, Int.reduceNeg, Int.reduceToNat, beq_self_eq_true, bne_self_eq_false, Nat.add_zero, reduceCtorEq, h0, h1, h6, h5, evLen_sl', List.length_map, hlt']
          refine ⟨_, _, rfl, by simp, g', ys, c, ?_, ?_, by omega, ?_, hgg, hkx.same _, by simp only; omega⟩
          · simp only [go_sem, ↓reduceIte, Nat.add_assoc, Nat.add_left_cancel_iff, Nat.add_eq_left, Nat.left_eq_add, Nat.reduceEqDiff, Nat.reduceLeDiff, Nat.reduceAdd, Nat.reduceSub, Int.reduceLT, Int.reduceLE, Int.reduceGT, Int.reduceGE, Int.reduceEq, Int.reduceBEq, Int.reduceBNe, Int.reduceAdd, Int.reduceSub, Int.reduceNeg, Int.reduceToNat, beq_self_eq_true, bne_self_eq_false, Nat.add_zero, reduceCtorEq, h0]
          · simp only [go_sem, ↓reduceIte, Nat.add_assoc, Nat.add_left_cancel_iff, Nat.add_eq_left, Nat.left_eq_add, Nat.reduceEqDiff, Nat.reduceLeDiff, Nat.reduceAdd, Nat.reduceSub, Int.reduceLT, Int.reduceLE, Int.reduceGT, Int.reduceGE, Int.reduceEq, Int.reduceBEq, Int.reduceBNe, Int.reduceAdd, Int.reduceSub, Int.reduceNeg, Int.reduceToNat, beq_self_eq_true, bne_self_eq_false, Nat.add_zero, reduceCtorEq, h5]
          · rw [List.take_length] at hyt; exact hyt) rounds (m + 1)
      (upd (upd (upd (upd (upd (upd (upd (upd (upd (upd (env0 [AV.sl (Cap.fam τ g o) sz (List.map av xs), AV.fn f cs]) 4 (AV.sl Cap.nil 0 [])) 8 (AV.sl (Cap.fam τ g o) sz (List.map av xs))) 9 (AV.fn f cs)) 10 (AV.int IntKind.i64 ↑m)) 5 (AV.int IntKind.i64 ↑m)) 11 (AV.int IntKind.i64 ↑m)) 12 (.bool false)) 14 (AV.int IntKind.i64 ↑m)) 15 (AV.int IntKind.i64 (↑m + 1))) 6 (AV.int IntKind.i64 (↑m + 1)))
      ⟨st.next + 10, st.boxes, st.iters, st.gens⟩ (by omega) (by unfold rounds; omega)
      ⟨g, xs, m, by simp only [go_sem, ↓reduceIte, Nat.add_assoc, Nat.add_left_cancel_iff, Nat.add_eq_left, Nat.left_eq_add, Nat.reduceEqDiff, Nat.reduceLeDiff, Nat.reduceAdd, Nat.reduceSub, Int.reduceLT, Int.reduceLE, Int.reduceGT, Int.reduceGE, Int.reduceEq, Int.reduceBEq, Int.reduceBNe, Int.reduceAdd, Int.reduceSub, Int.reduceNeg, Int.reduceToNat, beq_self_eq_true, bne_self_eq_false, Nat.add_zero, reduceCtorEq], by simp only [go_sem, ↓reduceIte, Nat.add_assoc, Nat.add_left_cancel_iff, Nat.add_eq_left, Nat.left_eq_add, Nat.reduceEqDiff, Nat.reduceLeDiff, Nat.reduceAdd, Nat.reduceSub, Int.reduceLT, Int.reduceLE, Int.reduceGT, Int.reduceGE, Int.reduceEq, Int.reduceBEq, Int.reduceBNe, Int.reduceAdd, Int.reduceSub, Int.reduceNeg, Int.reduceToNat, beq_self_eq_true, bne_self_eq_false, Nat.add_zero, reduceCtorEq], by simp only [go_sem, ↓reduceIte, Nat.add_assoc, Nat.add_left_cancel_iff, Nat.add_eq_left, Nat.left_eq_add, Nat.reduceEqDiff, Nat.reduceLeDiff, Nat.reduceAdd, Nat.reduceSub, Int.reduceLT, Int.reduceLE, Int.reduceGT, Int.reduceGE, Int.reduceEq, Int.reduceBEq, Int.reduceBNe, Int.reduceAdd, Int.reduceSub, Int.reduceNeg, Int.reduceToNat, beq_self_eq_true, bne_self_eq_false, Nat.add_zero, reduceCtorEq] <;> rfl, by simp only [go_sem, ↓reduceIte, Nat.add_assoc, Nat.add_left_cancel_iff, Nat.add_eq_left, Nat.left_eq_add, Nat.reduceEqDiff, Nat.reduceLeDiff, Nat.reduceAdd, Nat.reduceSub, Int.reduceLT, Int.reduceLE, Int.reduceGT, Int.reduceGE, Int.reduceEq, Int.reduceBEq, Int.reduceBNe, Int.reduceAdd, Int.reduceSub, Int.reduceNeg, Int.reduceToNat, beq_self_eq_true, bne_self_eq_false, Nat.add_zero, reduceCtorEq], by rw [hstart]; simp; omega, rfl, by rw [hstart], rfl, by omega, hg, ⟨fun _ _ => rfl, fun _ _ => rfl, fun _ _ _ => rfl⟩, by simp only; omega⟩
    subst hx
    have hcl := fun (e : Env) (n : Nat) => clear_elt (e := e) (n := n) (t := 0) (τ := τ) (g := g') (o := o) (o' := o + c) (b := st'.boxes) (it := st'.iters) (gs := st'.gens) (xs := ys) (ys := ys.drop c) (z := .agg z) hs hgg (by simp; omega) (by simp)
    have hsub : ys.length - (ys.length - c) = c := by omega
    simp (disch := first | omega | rfl | (simp only [upd_app, Nat.reduceEqDiff, ↓reduceIte, h0]) | (simp; omega)) only [delMF, go_sem, ↓reduceIte, Nat.add_assoc, Nat.add_left_cancel_iff, Nat.add_eq_left, Nat.left_eq_add, Nat.reduceEqDiff, Nat.reduceLeDiff, Nat.reduceAdd, Nat.reduceSub, Int.reduceLT, Int.reduceLE, Int.reduceGT, Int.reduceGE, Int.reduceEq, Int.reduceBEq, Int.reduceBNe, Int.reduceAdd, Int.reduceSub, Int.reduceNeg, Int.reduceToNat, beq_self_eq_true, bne_self_eq_false, Nat.add_zero, reduceCtorEq, hidx, hi, hneg, wrap_small, hl, h0, h5, slice_from, slice_to, Cap.shift, ← List.map_drop, hcl, List.length_drop, hsub, Nat.add_zero]
    rw [List.take_append_of_le_length (by simp; omega), List.take_of_length_le (by simp; omega), hyt]
    refine ⟨_, _, rfl, by simp only; omega, (hkx.gn 0 _).same _, ?_⟩
    simp [upd]

end Go.Ev
