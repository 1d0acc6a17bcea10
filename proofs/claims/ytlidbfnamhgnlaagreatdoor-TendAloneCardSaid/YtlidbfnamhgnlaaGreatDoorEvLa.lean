/- slices.IndexFunc, ContainsFunc, whatever their elements are: what they tell. -/
import Derived.Test.YtlidbfnamhgnlaaGreatDoorEvNd
namespace Go.Ev
open Go
open Enc (av)

section
variable {α : Type} [Enc α]

/-- A list that may be read now. -/
structure Rd (st : St) (v : AV) (xs : List α) : Prop where
  ex : ∃ c s, v = .sl c s (xs.map av) ∧ (s = Enc.sz α ∨ xs = []) ∧ (c = .ro ∨ (c = .nil ∧ xs = []) ∨ ∃ τ g o, c = .fam τ g o ∧ τ < st.next ∧ st.gens τ = g)

theorem Rd.mono {st st' : St} {v : AV} {xs : List α} (h : Rd st v xs) (hn : st.next ≤ st'.next) (hk : Keeps st st') : Rd st' v xs := by
  obtain ⟨c, s, h1, h2, h3⟩ := h.ex
  refine ⟨c, s, h1, h2, ?_⟩
  rcases h3 with h3 | h3 | ⟨τ, g, o, h3, h4, h5⟩
  · exact .inl h3
  · exact .inr (.inl h3)
  · exact .inr (.inr ⟨τ, g, o, h3, by omega, by rw [hk.gens τ h4]; exact h5⟩)

theorem Rd.lst (st : St) (xs : List α) : Rd st (lst xs) xs := by
  cases xs with
  | nil => exact ⟨_, _, rfl, .inr rfl, .inl rfl⟩
  | cons x xs => exact ⟨_, _, rfl, .inl rfl, .inl rfl⟩

theorem Rd.len {st : St} {v : AV} {xs : List α} (h : Rd st v xs) : evLen false v = some (.int .i64 xs.length) := by
  obtain ⟨c, s, rfl, _⟩ := h.ex
  simp [evLen]

/-- The place of an element. -/
def elt (v : AV) (i off : Nat) : AV := match v with
  | .sl c s ys => .ept c s ys i off
  | q => q

theorem Rd.iadr {st : St} {v : AV} {xs : List α} (h : Rd st v xs) {sz : Nat} (hs : sz = Enc.sz α) {k : IntKind} {i : Int} (hi : 0 ≤ i) (hx : i < xs.length) : evIadr sz v (.int k i) = some (elt v i.toNat 0) := by
  obtain ⟨c, s, rfl, h2, h3⟩ := h.ex
  have hne : xs ≠ [] := by rintro rfl; simp at hx; omega
  obtain rfl : s = Enc.sz α := h2.resolve_right hne
  subst hs
  simp only [evIadr]
  rw [if_pos (by simp; omega)]
  rfl

theorem Rd.fadr {st : St} {v : AV} {xs : List α} (h : Rd st v xs) (off i o : Nat) : evFadr off (elt v i o) = some (elt v i (o + off)) := by
  obtain ⟨c, s, rfl, _⟩ := h.ex
  rfl

theorem Rd.load {st : St} {v : AV} {xs : List α} (h : Rd st v xs) {i : Nat} {x : α} (hx : xs[i]? = some x) (n : Nat) (bx : Nat → Option (List AV)) (it : Nat → Option (ByteArray × Nat)) (ag : Bool) (s off : Nat) (ho : off + s ≤ Enc.sz α) :
    evLoad ⟨n, bx, it, st.gens⟩ ag s (elt v i off) = getR ag (av x).cells off s := by
  obtain ⟨c, s', rfl, h2, h3⟩ := h.ex
  have hne : xs ≠ [] := by rintro rfl; simp at hx
  obtain rfl : s' = Enc.sz α := h2.resolve_right hne
  refine load_ept _ ag s _ c xs _ off x hx ?_ ho
  rcases h3 with rfl | ⟨rfl, _⟩ | ⟨τ, g, o, rfl, h4, h5⟩
  · rfl
  · rfl
  · simp [okc, h5]

theorem av_agg (x : α) (h : Enc.sz α ≠ 1) : AV.agg (av x).cells = av x := by
  have h1 := Enc.cells x
  cases hx : av x <;> rw [hx] at h1 <;> first | rfl | (simp [AV.cells] at h1; omega)

theorem getR_whole (x : α) (sz : Nat) (hs : sz = Enc.sz α) (h1 : Enc.sz α ≠ 1) : getR true (av x).cells 0 sz = some (av x) := by
  subst hs
  simp only [getR, if_true, Nat.zero_add]
  rw [if_pos (by rw [Enc.cells]; exact Nat.le_refl _)]
  rw [List.drop_zero, List.take_of_length_le (by rw [Enc.cells]; exact Nat.le_refl _), av_agg x h1]

end

/-- Bytes by their numbers. -/
def bs (l : List Nat) : ByteArray := ⟨(l.map UInt8.ofNat).toArray⟩

def idxL (sz : Nat) : MC :=
  (.seq (.reg 1 [⟨some 9, none, .bin .lss (.t 8) (.t 7), 0, 0⟩]) (.seq (.cond (.t 9) .skip (.exit 0)) (.seq (.block 1 (.seq (.reg 2 [⟨some 10, none, .mv (.t 8), 0, 0⟩, ⟨some 5, none, .mv (.t 10), 0, 0⟩]) (.seq (.reg 6 [⟨some 11, none, .mv (.t
  1), 0, 0⟩, ⟨some 12, none, .mv (.t 0), 0, 0⟩, ⟨some 13, none, .mv (.t 5), 0, 0⟩, ⟨some 14, none, .iadr sz (.t 12) (.t 13), 0, 0⟩, ⟨some 15, none, .load true sz (.t 14), 0, 0⟩, ⟨some 16, none, .callV (.t 11) [(.t 15)], 0, 0⟩]) (.cond (.t 16)
  (.seq (.reg 2 [⟨some 17, none, .mv (.t 5), 0, 0⟩, ⟨some 4, none, .mv (.t 17), 0, 0⟩]) .ret) .skip)))) (.reg 2 [⟨some 18, none, .bin .add (.t 8) (.c (.int .i64 1)), 0, 0⟩, ⟨some 8, none, .mv (.t 18), 0, 0⟩]))))

def idxMF (sz : Nat) : MF :=
  ⟨19, (.seq (.reg 1 [⟨some 4, none, .mv (.c (.int .i64 0)), 0, 0⟩]) (.seq (.seq (.reg 3 [⟨some 6, none, .mv (.t 0), 0, 0⟩, ⟨some 7, none, .len false (.t 6), 0, 0⟩, ⟨some 8, none, .mv (.c (.int .i64 0)), 0, 0⟩]) (.block 0 (.loop (idxL sz))))
  (.seq (.reg 1 [⟨some 4, none, .mv (.c (.int .i64 (-1))), 0, 0⟩]) .ret))), [(.tmp 4)]⟩

/-- The place of the first one. -/
def indexF {α : Type} (p : α → Bool) : List α → Int
  | [] => -1
  | x :: xs => if p x then 0 else (let r := indexF p xs; if r < 0 then -1 else r + 1)

theorem wrap_small {i : Int} (h0 : 0 ≤ i) (h1 : i < 9223372036854775808) : IntKind.wrap .i64 i = i := by
  simp [IntKind.wrap, IntKind.bits, IntKind.signed]
  omega

theorem indexF_none {α : Type} {p : α → Bool} : ∀ {xs : List α}, (∀ i (h : i < xs.length), p xs[i] = false) → indexF p xs = -1 := by
  intro xs
  induction xs with
  | nil => intro _; rfl
  | cons x xs ih =>
    intro h
    have h0 := h 0 (by simp)
    simp at h0
    have := ih (fun i hi => by have := h (i + 1) (by simpa using hi); simpa using this)
    simp [indexF, h0, this]

theorem indexF_at {α : Type} {p : α → Bool} : ∀ {xs : List α} (n : Nat) (hn : n < xs.length), (∀ i (h : i < n), p (xs[i]'(by omega)) = false) → p xs[n] = true → indexF p xs = n := by
  intro xs
  induction xs with
  | nil => intro n hn; simp at hn
  | cons x xs ih =>
    intro n hn h h1
    cases n with
    | zero => simp at h1; simp [indexF, h1]
    | succ n =>
      have h0 := h 0 (by omega)
      simp at h0
      have := ih n (by simpa using hn) (fun i hi => by have := h (i + 1) (by omega); simpa using this) (by simpa using h1)
      simp [indexF, h0, this]
      omega

theorem AV.beq_refl : ∀ (n : Nat) (a : AV), SizeOf.sizeOf a ≤ n → AV.beq a a = true := by
  intro n
  induction n with
  | zero => intro a h; cases a <;> simp at h
  | succ n ih =>
    have ihs : ∀ (xs : List AV), SizeOf.sizeOf xs ≤ n → AV.beqs xs xs = true := by
      intro xs
      induction xs with
      | nil => intro _; rfl
      | cons x xs ihx =>
        intro h
        simp at h
        simp [AV.beqs, ih x (by omega), ihx (by omega)]
    intro a h
    cases a <;> simp at h <;> simp [AV.beq] <;> first | exact ihs _ (by omega) | exact ih _ (by omega)

theorem AV.beq_self (a : AV) : AV.beq a a = true := AV.beq_refl _ a (Nat.le_refl _)

theorem load_ptr (st : St) (ag : Bool) (sz id off : Nat) : evLoad st ag sz (.ptr id off) = match st.boxes id with | some cs => getR ag cs off sz | none => none := by
  simp only [evLoad]; cases st.boxes id <;> rfl
theorem fadr_ptr (off id o : Nat) : evFadr off (.ptr id o) = some (.ptr id (o + off)) := rfl
theorem getR_t (c : AV) (cs : List AV) (off sz : Nat) : getR true (c :: cs) off sz = if off + sz ≤ (c :: cs).length then some (.agg (((c :: cs).drop off).take sz)) else none := rfl
theorem getR_f (c : AV) (cs : List AV) (off sz : Nat) : getR false (c :: cs) off sz = (c :: cs)[off]? := rfl
theorem cells_agg (cs : List AV) : (AV.agg cs).cells = cs := rfl
theorem cells_int (k : IntKind) (n : Int) : (AV.int k n).cells = [.int k n] := rfl
theorem cells_bool (b : Bool) : (AV.bool b).cells = [.bool b] := rfl
theorem cells_str (s : ByteArray) : (AV.str s).cells = [.str s] := rfl
theorem cells_sl (c : Cap) (s : Nat) (xs : List AV) : (AV.sl c s xs).cells = [.sl c s xs] := rfl
theorem cells_lst {α : Type} [Enc α] (xs : List α) : (lst xs).cells = [lst xs] := rfl
theorem cells_ptr (i o : Nat) : (AV.ptr i o).cells = [.ptr i o] := rfl
theorem cells_fn (f : Nat) (cs : List AV) : (AV.fn f cs).cells = [.fn f cs] := rfl
theorem scalar_lst {α : Type} [Enc α] (xs : List α) : scalar (lst xs) = true := rfl
theorem scalar_int (k : IntKind) (n : Int) : scalar (AV.int k n) = true := rfl
theorem scalar_bool (b : Bool) : scalar (AV.bool b) = true := rfl
theorem scalar_str (s : ByteArray) : scalar (AV.str s) = true := rfl
theorem scalar_sl (c : Cap) (s : Nat) (xs : List AV) : scalar (AV.sl c s xs) = true := rfl
theorem scalar_ptr (i o : Nat) : scalar (AV.ptr i o) = true := rfl
theorem store_ptr (e : Env) (st : St) (sz id off : Nat) (x : AV) (pl : Option Pl) : evStore e st sz (.ptr id off) x pl =
    if x.cells.length = sz ∧ okCells x = true then (match st.boxes id with | some cs => (match setR cs off x.cells with | some cs' => some (e, { st with boxes := upd st.boxes id (some cs') }) | none => none) | none => none) else none := by
  simp only [evStore]
  split
  · cases st.boxes id with
    | none => rfl
    | some cs => simp only [Option.bind_some]; cases setR cs off x.cells <;> rfl
  · rfl

theorem Rd.any {α : Type} [Enc α] {st : St} {v : AV} {xs : List α} (h : Rd st v xs) {n : Nat} (hn : st.next ≤ n) (b : Nat → Option (List AV)) (i : Nat → Option (ByteArray × Nat)) : Rd ⟨n, b, i, st.gens⟩ v xs := by
  obtain ⟨c, s, h1, h2, h3⟩ := h.ex
  refine ⟨c, s, h1, h2, ?_⟩
  rcases h3 with h3 | h3 | ⟨τ, g, o, h3, h4, h5⟩
  · exact .inl h3
  · exact .inr (.inl h3)
  · exact .inr (.inr ⟨τ, g, o, h3, by simp only; omega, h5⟩)

theorem Rd.cells {α : Type} [Enc α] {st : St} {v : AV} {xs : List α} (h : Rd st v xs) : v.cells = [v] := by
  obtain ⟨c, s, rfl, _⟩ := h.ex; rfl
theorem Rd.scalar {α : Type} [Enc α] {st : St} {v : AV} {xs : List α} (h : Rd st v xs) : Ev.scalar v = true := by
  obtain ⟨c, s, rfl, _⟩ := h.ex; rfl

theorem setR_cons (c : AV) (cs : List AV) (off : Nat) (ys : List AV) : setR (c :: cs) off ys = if off + ys.length ≤ (c :: cs).length then some ((c :: cs).take off ++ (ys ++ (c :: cs).drop (off + ys.length))) else none := rfl
theorem evLen_sl' (c : Cap) (s : Nat) (xs : List AV) : evLen false (.sl c s xs) = some (.int .i64 xs.length) := rfl
theorem evUn_not (b : Bool) : evUn .not (.bool b) = some (.bool !b) := rfl
theorem evMnmx_2 (mx : Bool) (k k' : IntKind) (a b : Int) : evMnmx mx [.int k a, .int k' b] = some (.int k (if mx = true then (if a < b then b else a) else (if b < a then b else a))) := rfl
theorem upd_app {α : Type} (f : Nat → α) (i : Nat) (v : α) (j : Nat) : upd f i v j = if j = i then v else f j := rfl
theorem upd_upd {α : Type} (f : Nat → α) (i : Nat) (a b : α) : upd (upd f i a) i b = upd f i b := by
  funext j; simp only [upd]; split <;> rfl
theorem ev_t (e : Env) (n : Nat) : Opd.ev e (.t n) = e n := rfl
theorem ev_c (e : Env) (v : AV) : Opd.ev e (.c v) = v := rfl
theorem env0_app (args : List AV) (i : Nat) : env0 args i = (args[i]?).getD .junk := rfl

theorem loopN_succ (f : Env → St → Option (X × Env × St)) (k : Nat) (e : Env) (st : St) : loopN f (k + 1) e st = match f e st with | some r => (match r.1 with | .normal => loopN f k r.2.1 r.2.2 | _ => some r) | none => none := by
  rw [loopN]
  cases f e st <;> rfl

/-- One round fewer. -/
def rounds1 : Nat := 999999999999
/-- Two rounds fewer. -/
def rounds2 : Nat := 999999999998
theorem loop_un (f : Env → St → Option (X × Env × St)) (e : Env) (st : St) : loopN f rounds e st = match f e st with | some r => (match r.1 with | .normal => loopN f rounds1 r.2.1 r.2.2 | _ => some r) | none => none := by
  rw [show rounds = rounds1 + 1 from rfl, loopN_succ]
theorem loop_un1 (f : Env → St → Option (X × Env × St)) (e : Env) (st : St) : loopN f rounds1 e st = match f e st with | some r => (match r.1 with | .normal => loopN f rounds2 r.2.1 r.2.2 | _ => some r) | none => none := by
  rw [show rounds1 = rounds2 + 1 from rfl, loopN_succ]

theorem srcOf_sl (g : Nat → Nat) (sz : Nat) (c : Cap) (s : Nat) (ys : List AV) : srcOf g sz (.sl c s ys) = if okc g c = true ∧ (s = sz ∨ ys = []) then some ys else none := rfl
theorem okc_fam (g : Nat → Nat) (τ g0 o : Nat) : okc g (.fam τ g0 o) = (g τ == g0) := rfl
theorem okc_ro (g : Nat → Nat) : okc g .ro = true := rfl
theorem okc_nil (g : Nat → Nat) : okc g .nil = true := rfl
theorem appOk_fam (g : Nat → Nat) (τ g0 o : Nat) : appOk g (.fam τ g0 o) = (g τ == g0) := rfl
theorem appOk_nil (g : Nat → Nat) : appOk g .nil = true := rfl
theorem appGens_fam (g : Nat → Nat) (τ g0 o : Nat) : appGens g (.fam τ g0 o) = upd g τ (g0 + 1) := rfl
theorem appGens_nil (g : Nat → Nat) : appGens g .nil = g := rfl

attribute [go_sem ↓] bind_m map_m
attribute [go_sem] evFn evC evIs evOp gv putD ev_t ev_c evUn_not evMnmx_2 upd_app upd_upd srcOf_sl okc_fam okc_ro okc_nil appOk_fam appOk_nil appGens_fam appGens_nil true_or or_true hoist env0_app evRs evR resOf evBin binI List.length_cons List.length_nil List.getElem?_cons_zero List.getElem?_cons_succ Option.getD_some List.map_cons List.map_nil List.cons_append List.nil_append
  Nat.le_refl Nat.zero_le evD sameV AV.beq_self MOp.mut List.all_cons List.all_nil Bool.and_true and_true true_and and_self
  setR_cons fillA fadr_ptr load_ptr store_ptr getR_t getR_f cells_agg cells_int cells_bool cells_str cells_sl cells_lst cells_ptr cells_fn scalar_lst scalar_int scalar_bool scalar_str scalar_sl scalar_ptr okCells Option.some.injEq
  List.drop_zero List.drop_succ_cons List.take_succ_cons List.take_zero List.drop_nil List.take_nil
  decide_true decide_false beq_true beq_false Bool.not_true Bool.not_false

/-- A loop over a list, behind its last round. -/
theorem loop_zero {call : Nat → List AV → St → Option (AV × St)} {B : MC} {a b c x : Nat} {k : IntKind} {i j : Int} {e : Env} {s : St} (h1 : e a = .int k i) (h2 : e b = .int k j) (h : ¬ i < j) :
    loopN (evC call rounds (.seq (.reg 1 [⟨some c, none, .bin .lss (.t a) (.t b), 0, 0⟩]) (.seq (.cond (.t c) .skip (.exit x)) B))) rounds e s = some (.exit x, upd e c (.bool false), ⟨s.next + 1, s.boxes, s.iters, s.gens⟩) := by
  rw [loop_un]
  simp only [go_sem, ↓reduceIte, Nat.add_assoc, Nat.add_left_cancel_iff, Nat.add_eq_left, Nat.left_eq_add, Nat.reduceEqDiff, Nat.reduceLeDiff, Nat.reduceAdd, Nat.reduceSub, Int.reduceLT, Int.reduceLE, Int.reduceGT, Int.reduceGE, Int.reduceEq, Int.reduceBEq, Int.reduceBNe, Int.reduceAdd, Int.reduceSub, Int.reduceNeg, Int.reduceToNat, beq_self_eq_true, bne_self_eq_false, Nat.add_zero, reduceCtorEq, h1, h2, h]

theorem Keeps.base {st : St} {n : Nat} : Keeps st ⟨n, st.boxes, st.iters, st.gens⟩ := ⟨fun _ _ => rfl, fun _ _ => rfl, fun _ _ => rfl⟩
theorem Keeps.boxes {st : St} {b : Nat → Option (List AV)} {n : Nat} (h : ∀ k, k < st.next → b k = st.boxes k) : Keeps st ⟨n, b, st.iters, st.gens⟩ := ⟨h, fun _ _ => rfl, fun _ _ => rfl⟩
theorem Keeps.box1 {st : St} {n k m : Nat} {b : Nat → Option (List AV)} {i : Nat → Option (ByteArray × Nat)} {g : Nat → Nat} {v : Option (List AV)} (h : Keeps st ⟨n, b, i, g⟩) (hk : st.next ≤ k) : Keeps st ⟨m, upd b k v, i, g⟩ :=
  ⟨fun j hj => by simp only [upd]; rw [if_neg (by omega)]; exact h.box j hj, h.iter, h.gens⟩
theorem Keeps.gen1 {st : St} {n k m v : Nat} {b : Nat → Option (List AV)} {i : Nat → Option (ByteArray × Nat)} {g : Nat → Nat} (h : Keeps st ⟨n, b, i, g⟩) (hk : st.next ≤ k) : Keeps st ⟨m, b, i, upd g k v⟩ :=
  ⟨h.box, h.iter, fun j hj => by simp only [upd]; rw [if_neg (by omega)]; exact h.gens j hj⟩

theorem Keeps.same {st s : St} (h : Keeps st s) (n : Nat) : Keeps st ⟨n, s.boxes, s.iters, s.gens⟩ := ⟨h.box, h.iter, h.gens⟩

theorem idx_eval {α : Type} [Enc α] {call : Nat → List AV → St → Option (AV × St)} {g : Nat} {cs : List AV} {sz : Nat} (hs : sz = Enc.sz α) (hs1 : Enc.sz α ≠ 1) {xs : List α} {p : α → Bool} {v : AV} {st : St} (hrd : Rd st v xs) (hlen : xs.length < 1000000000000)
    (hcall : ∀ x ∈ xs, ∀ st', st.next ≤ st'.next → Keeps st st' → call g (av x :: cs) st' = some (.bool (p x), st')) :
    ∃ st1, evFn call rounds (idxMF sz) [v, .fn g cs] st = some (.int .i64 (indexF p xs), st1) ∧ Keeps st st1 := by
  have hr : (xs.length : Int) < 9223372036854775807 := by omega
  obtain ⟨x, e', st', hl, hk, hp⟩ := loop_inv (f := evC call rounds (idxL sz)) xs.length
    (fun i e s => e 0 = v ∧ e 1 = .fn g cs ∧ e 7 = .int .i64 xs.length ∧ e 8 = .int .i64 i ∧ Keeps st s ∧ st.next ≤ s.next ∧ ∀ j (h : j < xs.length), j < i → p xs[j] = false)
    (fun x e s => Keeps st s ∧ ((x = .exit 0 ∧ indexF p xs = -1) ∨ (x = .ret ∧ e 4 = .int .i64 (indexF p xs))))
    (fun i e s hi ⟨h0, h1, h7, h8, hk, hn, hj⟩ => by
      by_cases hlt : i < xs.length
      · have hlt' : (i : Int) < xs.length := by omega
        have hx : xs[(i : Int).toNat]? = some xs[i] := by simp [hlt]
        have hrd' := hrd.mono hn hk
        have hc : ∀ n, s.next ≤ n → call g (av xs[i] :: cs) ⟨n, s.boxes, s.iters, s.gens⟩ = some (.bool (p xs[i]), ⟨n, s.boxes, s.iters, s.gens⟩) := fun n hn' => hcall xs[i] (by simp) _ (by simp only; omega) (hk.same n)
        cases hpi : p xs[i] with
        | true =>
          right
          refine ⟨.ret, ?_⟩
          simp (disch := omega) only [idxL, go_sem, ↓reduceIte, Nat.add_assoc, Nat.add_left_cancel_iff, Nat.add_eq_left, Nat.left_eq_add, Nat.reduceEqDiff, Nat.reduceLeDiff, Nat.reduceAdd, Nat.reduceSub, Int.reduceLT, Int.reduceLE, Int.reduceGT, Int.reduceGE, Int.reduceEq, Int.reduceBEq, Int.reduceBNe, Int.reduceAdd, Int.reduceSub, Int.reduceNeg, Int.reduceToNat, beq_self_eq_true, bne_self_eq_false, Nat.add_zero, reduceCtorEq, h0, h1, h7, h8, hrd'.iadr hs (Int.natCast_nonneg i) hlt', hrd'.load hx, getR_whole _ sz hs hs1, hc, hpi, hlt', decide_true]
          refine ⟨_, _, rfl, by simp, hk.same _, .inr ?_⟩
          rw [indexF_at i hlt (fun j hji => hj j (by omega) hji) hpi]; rfl
        | false =>
          left
          simp (disch := omega) only [idxL, go_sem, ↓reduceIte, Nat.add_assoc, Nat.add_left_cancel_iff, Nat.add_eq_left, Nat.left_eq_add, Nat.reduceEqDiff, Nat.reduceLeDiff, Nat.reduceAdd, Nat.reduceSub, Int.reduceLT, Int.reduceLE, Int.reduceGT, Int.reduceGE, Int.reduceEq, Int.reduceBEq, Int.reduceBNe, Int.reduceAdd, Int.reduceSub, Int.reduceNeg, Int.reduceToNat, beq_self_eq_true, bne_self_eq_false, Nat.add_zero, reduceCtorEq, h0, h1, h7, h8, hrd'.iadr hs (Int.natCast_nonneg i) hlt', hrd'.load hx, getR_whole _ sz hs hs1, hc, hpi, hlt', decide_true, wrap_small]
          refine ⟨_, _, rfl, hlt, ?_, ?_, ?_, ?_, hk.same _, by simp only; omega, fun j hj1 hj2 => ?_⟩
          · simp only [go_sem, ↓reduceIte, Nat.add_assoc, Nat.add_left_cancel_iff, Nat.add_eq_left, Nat.left_eq_add, Nat.reduceEqDiff, Nat.reduceLeDiff, Nat.reduceAdd, Nat.reduceSub, Int.reduceLT, Int.reduceLE, Int.reduceGT, Int.reduceGE, Int.reduceEq, Int.reduceBEq, Int.reduceBNe, Int.reduceAdd, Int.reduceSub, Int.reduceNeg, Int.reduceToNat, beq_self_eq_true, bne_self_eq_false, Nat.add_zero, reduceCtorEq, h0]
          · simp only [go_sem, ↓reduceIte, Nat.add_assoc, Nat.add_left_cancel_iff, Nat.add_eq_left, Nat.left_eq_add, Nat.reduceEqDiff, Nat.reduceLeDiff, Nat.reduceAdd, Nat.reduceSub, Int.reduceLT, Int.reduceLE, Int.reduceGT, Int.reduceGE, Int.reduceEq, Int.reduceBEq, Int.reduceBNe, Int.reduceAdd, Int.reduceSub, Int.reduceNeg, Int.reduceToNat, beq_self_eq_true, bne_self_eq_false, Nat.add_zero, reduceCtorEq, h1]
          · simp only [go_sem, ↓reduceIte, Nat.add_assoc, Nat.add_left_cancel_iff, Nat.add_eq_left, Nat.left_eq_add, Nat.reduceEqDiff, Nat.reduceLeDiff, Nat.reduceAdd, Nat.reduceSub, Int.reduceLT, Int.reduceLE, Int.reduceGT, Int.reduceGE, Int.reduceEq, Int.reduceBEq, Int.reduceBNe, Int.reduceAdd, Int.reduceSub, Int.reduceNeg, Int.reduceToNat, beq_self_eq_true, bne_self_eq_false, Nat.add_zero, reduceCtorEq, h7]
          · simp only [go_sem, ↓reduceIte, Nat.add_assoc, Nat.add_left_cancel_iff, Nat.add_eq_left, Nat.left_eq_add, Nat.reduceEqDiff, Nat.reduceLeDiff, Nat.reduceAdd, Nat.reduceSub, Int.reduceLT, Int.reduceLE, Int.reduceGT, Int.reduceGE, Int.reduceEq, Int.reduceBEq, Int.reduceBNe, Int.reduceAdd, Int.reduceSub, Int.reduceNeg, Int.reduceToNat, beq_self_eq_true, bne_self_eq_false, Nat.add_zero, reduceCtorEq]; rfl
          · by_cases hji : j = i
            · subst hji; exact hpi
            · exact hj j hj1 (by omega)
      · right
        have hlt' : ¬ (i : Int) < xs.length := by omega
        refine ⟨.exit 0, ?_⟩
        simp only [idxL, go_sem, ↓reduceIte, Nat.add_assoc, Nat.add_left_cancel_iff, Nat.add_eq_left, Nat.left_eq_add, Nat.reduceEqDiff, Nat.reduceLeDiff, Nat.reduceAdd, Nat.reduceSub, Int.reduceLT, Int.reduceLE, Int.reduceGT, Int.reduceGE, Int.reduceEq, Int.reduceBEq, Int.reduceBNe, Int.reduceAdd, Int.reduceSub, Int.reduceNeg, Int.reduceToNat, beq_self_eq_true, bne_self_eq_false, Nat.add_zero, reduceCtorEq, h0, h1, h7, h8, hlt', decide_false]
        exact ⟨_, _, rfl, by simp, hk.same _, .inl (indexF_none (fun j h => hj j h (by omega)))⟩) rounds 0
    (upd (upd (upd (upd (env0 [v, AV.fn g cs]) 4 (AV.int IntKind.i64 0)) 6 v) 7 (AV.int IntKind.i64 ↑xs.length)) 8 (AV.int IntKind.i64 0)) { next := st.next + 1 + 3, boxes := st.boxes, iters := st.iters, gens := st.gens }
    (Nat.zero_le _) (by unfold rounds; omega) ⟨by simp only [go_sem, ↓reduceIte, Nat.add_assoc, Nat.add_left_cancel_iff, Nat.add_eq_left, Nat.left_eq_add, Nat.reduceEqDiff, Nat.reduceLeDiff, Nat.reduceAdd, Nat.reduceSub, Int.reduceLT, Int.reduceLE, Int.reduceGT, Int.reduceGE, Int.reduceEq, Int.reduceBEq, Int.reduceBNe, Int.reduceAdd, Int.reduceSub, Int.reduceNeg, Int.reduceToNat, beq_self_eq_true, bne_self_eq_false, Nat.add_zero, reduceCtorEq], by simp only [go_sem, ↓reduceIte, Nat.add_assoc, Nat.add_left_cancel_iff, Nat.add_eq_left, Nat.left_eq_add, Nat.reduceEqDiff, Nat.reduceLeDiff, Nat.reduceAdd, Nat.reduceSub, Int.reduceLT, Int.reduceLE, Int.reduceGT, Int.reduceGE, Int.reduceEq, Int.reduceBEq, Int.reduceBNe, Int.reduceAdd, Int.reduceSub, Int.reduceNeg, Int.reduceToNat, beq_self_eq_true, bne_self_eq_false, Nat.add_zero, reduceCtorEq], by simp only [go_sem, ↓reduceIte, Nat.add_assoc, Nat.add_left_cancel_iff, Nat.add_eq_left, Nat.left_eq_add, Nat.reduceEqDiff, Nat.reduceLeDiff, Nat.reduceAdd, Nat.reduceSub, Int.reduceLT, Int.reduceLE, Int.reduceGT, Int.reduceGE, Int.reduceEq, Int.reduceBEq, Int.reduceBNe, Int.reduceAdd, Int.reduceSub, Int.reduceNeg, Int.reduceToNat, beq_self_eq_true, bne_self_eq_false, Nat.add_zero, reduceCtorEq], by simp only [go_sem, ↓reduceIte, Nat.add_assoc, Nat.add_left_cancel_iff, Nat.add_eq_left, Nat.left_eq_add, Nat.reduceEqDiff, Nat.reduceLeDiff, Nat.reduceAdd, Nat.reduceSub, Int.reduceLT, Int.reduceLE, Int.reduceGT, Int.reduceGE, Int.reduceEq, Int.reduceBEq, Int.reduceBNe, Int.reduceAdd, Int.reduceSub, Int.reduceNeg, Int.reduceToNat, beq_self_eq_true, bne_self_eq_false, Nat.add_zero, reduceCtorEq]; rfl, (Keeps.refl st).same _, by simp only; omega, fun j _ h => by omega⟩
  rcases hp with ⟨rfl, hp⟩ | ⟨rfl, hp⟩
  · simp only [idxMF, go_sem, ↓reduceIte, Nat.add_assoc, Nat.add_left_cancel_iff, Nat.add_eq_left, Nat.left_eq_add, Nat.reduceEqDiff, Nat.reduceLeDiff, Nat.reduceAdd, Nat.reduceSub, Int.reduceLT, Int.reduceLE, Int.reduceGT, Int.reduceGE, Int.reduceEq, Int.reduceBEq, Int.reduceBNe, Int.reduceAdd, Int.reduceSub, Int.reduceNeg, Int.reduceToNat, beq_self_eq_true, bne_self_eq_false, Nat.add_zero, reduceCtorEq, hrd.len, hl, hp]
    exact ⟨_, rfl, hk.same _⟩
  · simp only [idxMF, go_sem, ↓reduceIte, Nat.add_assoc, Nat.add_left_cancel_iff, Nat.add_eq_left, Nat.left_eq_add, Nat.reduceEqDiff, Nat.reduceLeDiff, Nat.reduceAdd, Nat.reduceSub, Int.reduceLT, Int.reduceLE, Int.reduceGT, Int.reduceGE, Int.reduceEq, Int.reduceBEq, Int.reduceBNe, Int.reduceAdd, Int.reduceSub, Int.reduceNeg, Int.reduceToNat, beq_self_eq_true, bne_self_eq_false, Nat.add_zero, reduceCtorEq, hrd.len, hl, hp]
    exact ⟨_, rfl, hk⟩

theorem raw_of {T : Tbl} {d c f : Nat} {mf : MF} {args : List AV} {st : St} {v : AV} (hm : T.mode c f = .raw) (hF : T.F f = some mf) (h : ∃ v1 st1, evFn (callN T d f) rounds mf args st = some (v1, st1) ∧ Keeps st st1 ∧ froz st.next st1.gens v1 = some v) :
    callN T (d + 1) c f args st = some (v, st) := by
  obtain ⟨v1, st1, h1, h2, h3⟩ := h
  exact callN_raw hm hF h1 h2 h3

/-- A call of it: whatever the closure does, it reads. -/
theorem idx_call {α : Type} [Enc α] {T : Tbl} {d c f g : Nat} {cs : List AV} {sz : Nat} (hm : T.mode c f = .raw) (hF : T.F f = some (idxMF sz)) (hs : sz = Enc.sz α) (hs1 : Enc.sz α ≠ 1) {xs : List α} {p : α → Bool} {v : AV} {st : St} (hrd : Rd st v xs) (hlen : xs.length < 1000000000000)
    (hcall : ∀ x ∈ xs, ∀ st', st.next ≤ st'.next → Keeps st st' → callN T d f g (av x :: cs) st' = some (.bool (p x), st')) :
    callN T (d + 1) c f [v, .fn g cs] st = some (.int .i64 (indexF p xs), st) := by
  obtain ⟨st1, h1, h2⟩ := idx_eval hs hs1 hrd hlen hcall
  exact callN_raw hm hF h1 h2 rfl

theorem indexF_any {α : Type} (p : α → Bool) : ∀ xs : List α, decide (indexF p xs ≥ 0) = xs.any p := by
  intro xs
  induction xs with
  | nil => rfl
  | cons x xs ih =>
    simp only [indexF, List.any_cons, ← ih]
    cases p x
    · simp only [Bool.false_or, Bool.false_eq_true, if_false]
      by_cases h : indexF p xs < 0
      · simp [h, show ¬ indexF p xs ≥ 0 by omega]
      · simp [h, show indexF p xs ≥ 0 by omega]; omega
    · simp

def conMF (k : Nat) : MF :=
  ⟨9, (.seq (.reg 1 [⟨some 4, none, .mv (.c (.bool false)), 0, 0⟩]) (.seq (.reg 5 [⟨some 5, none, .mv (.t 0), 0, 0⟩, ⟨some 6, none, .mv (.t 1), 0, 0⟩, ⟨some 7, none, .call k [(.t 5), (.t 6)], 0, 0⟩, ⟨some 8, none, .bin .geq (.t 7) (.c (.int
  .i64 0)), 0, 0⟩, ⟨some 4, none, .mv (.t 8), 0, 0⟩]) .ret)), [(.tmp 4)]⟩

theorem con_call {α : Type} [Enc α] {T : Tbl} {d c f f' g : Nat} {cs : List AV} {sz : Nat} (hm : T.mode c f' = .raw) (hF' : T.F f' = some (conMF f)) (hm' : T.mode f' f = .raw) (hF : T.F f = some (idxMF sz)) (hs : sz = Enc.sz α) (hs1 : Enc.sz α ≠ 1) {xs : List α} {p : α → Bool} {v : AV} {st : St} (hrd : Rd st v xs)
    (hlen : xs.length < 1000000000000) (hcall : ∀ x ∈ xs, ∀ st', st.next ≤ st'.next → Keeps st st' → callN T d f g (av x :: cs) st' = some (.bool (p x), st')) :
    callN T (d + 2) c f' [v, .fn g cs] st = some (.bool (xs.any p), st) := by
  have h : ∀ n, st.next ≤ n → callN T (d + 1) f' f [v, .fn g cs] ⟨n, st.boxes, st.iters, st.gens⟩ = some (.int .i64 (indexF p xs), ⟨n, st.boxes, st.iters, st.gens⟩) := fun n hn =>
    idx_call hm' hF hs hs1 (hrd.any hn _ _) hlen (fun x hx st' h1 h2 => hcall x hx st' (by simp only at h1; omega) ⟨fun k hk => h2.box k (by simp only; omega), fun k hk => h2.iter k (by simp only; omega), fun k hk => h2.gens k (by simp only; omega)⟩)
  have h2 : evFn (callN T (d + 1) f') rounds (conMF f) [v, .fn g cs] st = some (.bool (xs.any p), ⟨st.next + 6, st.boxes, st.iters, st.gens⟩) := by
    simp (disch := omega) only [conMF, go_sem, ↓reduceIte, Nat.add_assoc, Nat.add_left_cancel_iff, Nat.add_eq_left, Nat.left_eq_add, Nat.reduceEqDiff, Nat.reduceLeDiff, Nat.reduceAdd, Nat.reduceSub, Int.reduceLT, Int.reduceLE, Int.reduceGT, Int.reduceGE, Int.reduceEq, Int.reduceBEq, Int.reduceBNe, Int.reduceAdd, Int.reduceSub, Int.reduceNeg, Int.reduceToNat, beq_self_eq_true, bne_self_eq_false, Nat.add_zero, reduceCtorEq, h, indexF_any]
  exact callN_raw hm hF' h2 Keeps.base rfl

end Go.Ev
