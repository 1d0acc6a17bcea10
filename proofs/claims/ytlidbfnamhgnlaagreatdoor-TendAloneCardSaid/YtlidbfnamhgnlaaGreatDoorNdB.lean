/- A node that is alone: what each function tells of it. -/
import Derived.Test.YtlidbfnamhgnlaaGreatDoorNdA
namespace Go.Ev.Nd
open Go Go.Ev
open Go.Ev.Enc (av)

theorem evLen_lst {α : Type} [Enc α] (xs : List α) : evLen false (lst xs) = some (.int .i64 xs.length) := len_lst xs
theorem evLen_sl (c : Cap) (s : Nat) (xs : List AV) : evLen false (.sl c s xs) = some (.int .i64 xs.length) := rfl
theorem evLen_str (s : ByteArray) : evLen true (.str s) = some (.int .i64 s.size) := rfl
theorem froz_nil (n : Nat) (g : Nat → Nat) (s : Nat) : froz n g (.sl .nil s []) = some (L 0 []) := rfl
theorem froz_int (n : Nat) (g : Nat → Nat) (k : IntKind) (i : Int) : froz n g (.int k i) = some (.int k i) := rfl
theorem froz_str (n : Nat) (g : Nat → Nat) (s : ByteArray) : froz n g (.str s) = some (.str s) := rfl
theorem froz_bool (n : Nat) (g : Nat → Nat) (b : Bool) : froz n g (.bool b) = some (.bool b) := rfl
theorem froz_fn (n : Nat) (g : Nat → Nat) (f : Nat) : froz n g (.fn f []) = some (.fn f []) := rfl
theorem froz_av {α : Type} [Enc α] (n : Nat) (g : Nat → Nat) (x : α) : froz n g (av x) = some (av x) := Enc.ro x n g
theorem froz_agg (n : Nat) (g : Nat → Nat) (xs : List AV) : froz n g (.agg xs) = (frozs n g xs).map .agg := rfl
theorem froz_tup (n : Nat) (g : Nat → Nat) (xs : List AV) : froz n g (.tup xs) = (frozs n g xs).map .tup := rfl
theorem frozs_nil (n : Nat) (g : Nat → Nat) : frozs n g [] = some [] := rfl
theorem frozs_cons (n : Nat) (g : Nat → Nat) (x : AV) (xs : List AV) : frozs n g (x :: xs) = match froz n g x, frozs n g xs with | some y, some ys => some (y :: ys) | _, _ => none := rfl
theorem lst_nil (α : Type) [Enc α] : lst ([] : List α) = L 0 [] := rfl

attribute [go_sem] evLen_lst evLen_sl evLen_str Int.natCast_zero Int.ofNat_zero Int.lt_irrefl

theorem some_nil (g : Nat) : Tells T 0 193 true [lst ([] : List EntryV), .fn g []] (lst ([] : List PeerV)) := by
  refine ⟨m193, TF F193, fun d st _ => ?_⟩
  simp only [m193, m193l0, loop_un, go_sem, ↓reduceIte, Nat.add_assoc, Nat.add_left_cancel_iff, Nat.add_eq_left, Nat.left_eq_add, Nat.reduceEqDiff, Nat.reduceLeDiff, Nat.reduceAdd, Nat.reduceSub, Int.reduceLT, Int.reduceLE, Int.reduceGT, Int.reduceGE, Int.reduceEq, Int.reduceBEq, Int.reduceBNe, Int.reduceAdd, Int.reduceSub, Int.reduceNeg, Int.reduceToNat, beq_self_eq_true, bne_self_eq_false, Nat.add_zero, reduceCtorEq]
  exact ⟨_, _, rfl, by (repeat (first | exact Keeps.base | (refine Keeps.copy rfl hN hs ?_ ?_ ?_) | exact Keeps.same (by assumption) _ | apply Keeps.box1 (n := 0) | apply Keeps.gen1 (n := 0) | omega)), rfl, fun _ => rfl⟩

theorem firm_nil : Tells T 1 97 true [lst ([] : List EntryV)] (lst ([] : List PeerV)) := by
  refine ⟨m97, TF F97, fun d st hd => ?_⟩
  obtain ⟨d, rfl⟩ : ∃ k, d = k + 1 := ⟨d - 1, by omega⟩
  have h := fun s => (some_nil 194).call (T := T) (c := 97) rfl (d := d) (Nat.zero_le _) (args := [lst ([] : List EntryV), .fn 194 []]) (st := s) (by simp only [frozs_cons, froz_lst, froz_fn, frozs_nil])
  simp only [m97, go_sem, ↓reduceIte, Nat.add_assoc, Nat.add_left_cancel_iff, Nat.add_eq_left, Nat.left_eq_add, Nat.reduceEqDiff, Nat.reduceLeDiff, Nat.reduceAdd, Nat.reduceSub, Int.reduceLT, Int.reduceLE, Int.reduceGT, Int.reduceGE, Int.reduceEq, Int.reduceBEq, Int.reduceBNe, Int.reduceAdd, Int.reduceSub, Int.reduceNeg, Int.reduceToNat, beq_self_eq_true, bne_self_eq_false, Nat.add_zero, reduceCtorEq, h]
  exact ⟨_, _, rfl, by (repeat (first | exact Keeps.base | (refine Keeps.copy rfl hN hs ?_ ?_ ?_) | exact Keeps.same (by assumption) _ | apply Keeps.box1 (n := 0) | apply Keeps.gen1 (n := 0) | omega)), by simp only [froz_lst], fun _ => rfl⟩

theorem all_nil : Tells T 1 176 true [lst ([] : List EntryV)] (lst ([] : List PeerV)) := by
  refine ⟨m176, TF F176, fun d st hd => ?_⟩
  obtain ⟨d, rfl⟩ : ∃ k, d = k + 1 := ⟨d - 1, by omega⟩
  have h := fun s => (some_nil 250).call (T := T) (c := 176) rfl (d := d) (Nat.zero_le _) (args := [lst ([] : List EntryV), .fn 250 []]) (st := s) (by simp only [frozs_cons, froz_lst, froz_fn, frozs_nil])
  simp only [m176, go_sem, ↓reduceIte, Nat.add_assoc, Nat.add_left_cancel_iff, Nat.add_eq_left, Nat.left_eq_add, Nat.reduceEqDiff, Nat.reduceLeDiff, Nat.reduceAdd, Nat.reduceSub, Int.reduceLT, Int.reduceLE, Int.reduceGT, Int.reduceGE, Int.reduceEq, Int.reduceBEq, Int.reduceBNe, Int.reduceAdd, Int.reduceSub, Int.reduceNeg, Int.reduceToNat, beq_self_eq_true, bne_self_eq_false, Nat.add_zero, reduceCtorEq, h]
  exact ⟨_, _, rfl, by (repeat (first | exact Keeps.base | (refine Keeps.copy rfl hN hs ?_ ?_ ?_) | exact Keeps.same (by assumption) _ | apply Keeps.box1 (n := 0) | apply Keeps.gen1 (n := 0) | omega)), by simp only [froz_lst], fun _ => rfl⟩

theorem late_nil (n : NodeV) (hs : Small n) (hp : n.pends = []) : Tells T 2 157 false [av n] (.tup [av n, lst ([] : List PendV)]) := by
  refine ⟨m157, TF F157, fun d st hd => ?_⟩
  obtain ⟨d, rfl⟩ : ∃ k, d = k + 1 := ⟨d - 1, by omega⟩
  have h := fun s => (copy_tells n hs).call (T := T) (c := 157) rfl (d := d) (by omega) (args := [av n]) (st := s) (by simp only [frozs_cons, froz_av, frozs_nil])
  simp only [av_node, hp] at h
  simp only [m157, m157l0, loop_un, av_node, go_sem, ↓reduceIte, Nat.add_assoc, Nat.add_left_cancel_iff, Nat.add_eq_left, Nat.left_eq_add, Nat.reduceEqDiff, Nat.reduceLeDiff, Nat.reduceAdd, Nat.reduceSub, Int.reduceLT, Int.reduceLE, Int.reduceGT, Int.reduceGE, Int.reduceEq, Int.reduceBEq, Int.reduceBNe, Int.reduceAdd, Int.reduceSub, Int.reduceNeg, Int.reduceToNat, beq_self_eq_true, bne_self_eq_false, Nat.add_zero, reduceCtorEq, h, hp, List.length_nil]

  exact ⟨_, _, rfl, by (repeat (first | exact Keeps.base | (refine Keeps.copy rfl hN hs ?_ ?_ ?_) | exact Keeps.same (by assumption) _ | apply Keeps.box1 (n := 0) | apply Keeps.gen1 (n := 0) | omega)), by simp only [froz_tup, froz_agg, frozs_cons, frozs_nil, froz_lst, froz_nil, froz_int, froz_bool, Option.map_some, lst_nil], nofun⟩

theorem step_alone (n : NodeV) (hl : n.list = []) (key : Int) : Tells T 2 174 true [av n, .int .u64 key] (.tup [av n.me, lst ([] : List PeerV), .bool true]) := by
  refine ⟨m174, TF F174, fun d st hd => ?_⟩
  obtain ⟨d, rfl⟩ : ∃ k, d = k + 1 := ⟨d - 1, by omega⟩
  have h := fun s => firm_nil.call (T := T) (c := 174) rfl (d := d) (by omega) (args := [lst ([] : List EntryV)]) (st := s) (by simp only [frozs_cons, froz_lst, frozs_nil])
  simp only [m174, av_node, go_sem, ↓reduceIte, Nat.add_assoc, Nat.add_left_cancel_iff, Nat.add_eq_left, Nat.left_eq_add, Nat.reduceEqDiff, Nat.reduceLeDiff, Nat.reduceAdd, Nat.reduceSub, Int.reduceLT, Int.reduceLE, Int.reduceGT, Int.reduceGE, Int.reduceEq, Int.reduceBEq, Int.reduceBNe, Int.reduceAdd, Int.reduceSub, Int.reduceNeg, Int.reduceToNat, beq_self_eq_true, bne_self_eq_false, Nat.add_zero, reduceCtorEq, hl, h]
  exact ⟨_, _, rfl, by (repeat (first | exact Keeps.base | (refine Keeps.copy rfl hN hs ?_ ?_ ?_) | exact Keeps.same (by assumption) _ | apply Keeps.box1 (n := 0) | apply Keeps.gen1 (n := 0) | omega)), by simp only [froz_tup, froz_agg, frozs_cons, frozs_nil, froz_lst, froz_nil, froz_int, froz_bool, Option.map_some, lst_nil, av_peer], fun _ => rfl⟩

theorem mine_alone (n : NodeV) (hl : n.list = []) (key : Int) : Tells T 3 170 true [av n, .int .u64 key] (.bool true) := by
  refine ⟨m170, TF F170, fun d st hd => ?_⟩
  obtain ⟨d, rfl⟩ : ∃ k, d = k + 1 := ⟨d - 1, by omega⟩
  have h := fun s => (step_alone n hl key).call (T := T) (c := 170) rfl (d := d) (by omega) (args := [av n, .int .u64 key]) (st := s) (by simp only [frozs_cons, froz_av, froz_int, frozs_nil])
  simp only [av_node, av_peer] at h
  simp only [m170, av_node, go_sem, ↓reduceIte, Nat.add_assoc, Nat.add_left_cancel_iff, Nat.add_eq_left, Nat.left_eq_add, Nat.reduceEqDiff, Nat.reduceLeDiff, Nat.reduceAdd, Nat.reduceSub, Int.reduceLT, Int.reduceLE, Int.reduceGT, Int.reduceGE, Int.reduceEq, Int.reduceBEq, Int.reduceBNe, Int.reduceAdd, Int.reduceSub, Int.reduceNeg, Int.reduceToNat, beq_self_eq_true, bne_self_eq_false, Nat.add_zero, reduceCtorEq, h, evEqA, eqCells, eqCell, Bool.bne_false, Bool.and_self]
  exact ⟨_, _, rfl, by (repeat (first | exact Keeps.base | (refine Keeps.copy rfl hN hs ?_ ?_ ?_) | exact Keeps.same (by assumption) _ | apply Keeps.box1 (n := 0) | apply Keeps.gen1 (n := 0) | omega)), rfl, fun _ => rfl⟩

/-- A key's place: how it is summed. -/
def sumStep (n : Int) (b : UInt8) : Int := IntKind.wrap .u64 (IntKind.wrap .u64 (BitVec.ofInt 64 n ^^^ BitVec.ofInt 64 (IntKind.wrap .u64 b.toNat)).toNat * 1099511628211)
def sumI (s : ByteArray) : Int := s.data.toList.foldl sumStep 14695981039346656037
def xorU (a b : Int) : Int := IntKind.wrap .u64 (BitVec.ofInt 64 a ^^^ BitVec.ofInt 64 b).toNat
def mixI (u : Int) : Int :=
  let a := IntKind.wrap .u64 (xorU u (u.fdiv (2 ^ 30)) * 13787848793156543929)
  let b := IntKind.wrap .u64 (xorU a (a.fdiv (2 ^ 27)) * 10723151780598845931)
  xorU b (b.fdiv (2 ^ 31))

theorem mix_tells (u : Int) : Tells T 0 201 true [.int .u64 u] (.int .u64 (mixI u)) := by
  refine ⟨m201, TF F201, fun d st hd => ?_⟩
  simp only [m201, go_sem, ↓reduceIte, Nat.add_assoc, Nat.add_left_cancel_iff, Nat.add_eq_left, Nat.left_eq_add, Nat.reduceEqDiff, Nat.reduceLeDiff, Nat.reduceAdd, Nat.reduceSub, Int.reduceLT, Int.reduceLE, Int.reduceGT, Int.reduceGE, Int.reduceEq, Int.reduceBEq, Int.reduceBNe, Int.reduceAdd, Int.reduceSub, Int.reduceNeg, Int.reduceToNat, beq_self_eq_true, bne_self_eq_false, Nat.add_zero, reduceCtorEq, evBin, shiftI, IntKind.bits]
  exact ⟨_, _, rfl, by (repeat (first | exact Keeps.base | (refine Keeps.copy rfl hN hs ?_ ?_ ?_) | exact Keeps.same (by assumption) _ | apply Keeps.box1 (n := 0) | apply Keeps.gen1 (n := 0) | omega)), rfl, fun _ => rfl⟩

theorem evIdx_at (s : ByteArray) (k : IntKind) (i : Nat) (h : i < s.data.toList.length) : evIdx (.str s) (.int k i) = some (.int .u8 s.data.toList[i].toNat) := by
  simp only [evIdx]
  rw [if_pos (by omega)]
  have : ((i : Int).toNat) = i := by simp
  rw [this, List.getElem?_eq_getElem h]; rfl

theorem size_list (s : ByteArray) : s.size = s.data.toList.length := rfl

theorem sum_tells (s : ByteArray) (hs : s.size < 1000000000000) : Tells T 0 202 true [.str s] (.int .u64 (sumI s)) := by
  refine ⟨m202, TF F202, fun d st hd => ?_⟩
  have hsz := size_list s
  obtain ⟨x, e', st', hl, hk, hp⟩ := loop_inv (f := evC (callN T d 202) rounds m202l0) s.data.toList.length
    (fun i e z => e 0 = .str s ∧ e 6 = .int .i64 s.data.toList.length ∧ e 7 = .int .i64 i ∧ e 3 = .int .u64 ((s.data.toList.take i).foldl sumStep 14695981039346656037) ∧ Keeps st z)
    (fun x e z => Keeps st z ∧ x = .exit 0 ∧ e 3 = .int .u64 (sumI s))
    (fun i e z hi ⟨h0, h6, h7, h3, hk⟩ => by
      by_cases hlt : i < s.data.toList.length
      · have hlt' : (i : Int) < s.data.toList.length := by omega
        left
        simp (disch := omega) only [m202l0, go_sem, ↓reduceIte, Nat.add_assoc, Nat.add_left_cancel_iff, Nat.add_eq_left, Nat.left_eq_add, Nat.reduceEqDiff, Nat.reduceLeDiff, Nat.reduceAdd, Nat.reduceSub, Int.reduceLT, Int.reduceLE, Int.reduceGT, Int.reduceGE, Int.reduceEq, Int.reduceBEq, Int.reduceBNe, Int.reduceAdd, Int.reduceSub, Int.reduceNeg, Int.reduceToNat, beq_self_eq_true, bne_self_eq_false, Nat.add_zero, reduceCtorEq, h0, h6, h7, h3, hlt', evIdx_at s .i64 i hlt, wrap_small]
        refine ⟨_, _, rfl, hlt, ?_, ?_, ?_, ?_, hk.same _⟩
        · simp only [go_sem, ↓reduceIte, Nat.add_assoc, Nat.add_left_cancel_iff, Nat.add_eq_left, Nat.left_eq_add, Nat.reduceEqDiff, Nat.reduceLeDiff, Nat.reduceAdd, Nat.reduceSub, Int.reduceLT, Int.reduceLE, Int.reduceGT, Int.reduceGE, Int.reduceEq, Int.reduceBEq, Int.reduceBNe, Int.reduceAdd, Int.reduceSub, Int.reduceNeg, Int.reduceToNat, beq_self_eq_true, bne_self_eq_false, Nat.add_zero, reduceCtorEq, h0]
        · simp only [go_sem, ↓reduceIte, Nat.add_assoc, Nat.add_left_cancel_iff, Nat.add_eq_left, Nat.left_eq_add, Nat.reduceEqDiff, Nat.reduceLeDiff, Nat.reduceAdd, Nat.reduceSub, Int.reduceLT, Int.reduceLE, Int.reduceGT, Int.reduceGE, Int.reduceEq, Int.reduceBEq, Int.reduceBNe, Int.reduceAdd, Int.reduceSub, Int.reduceNeg, Int.reduceToNat, beq_self_eq_true, bne_self_eq_false, Nat.add_zero, reduceCtorEq, h6]
        · simp only [go_sem, ↓reduceIte, Nat.add_assoc, Nat.add_left_cancel_iff, Nat.add_eq_left, Nat.left_eq_add, Nat.reduceEqDiff, Nat.reduceLeDiff, Nat.reduceAdd, Nat.reduceSub, Int.reduceLT, Int.reduceLE, Int.reduceGT, Int.reduceGE, Int.reduceEq, Int.reduceBEq, Int.reduceBNe, Int.reduceAdd, Int.reduceSub, Int.reduceNeg, Int.reduceToNat, beq_self_eq_true, bne_self_eq_false, Nat.add_zero, reduceCtorEq] <;> rfl
        · simp only [go_sem, ↓reduceIte, Nat.add_assoc, Nat.add_left_cancel_iff, Nat.add_eq_left, Nat.left_eq_add, Nat.reduceEqDiff, Nat.reduceLeDiff, Nat.reduceAdd, Nat.reduceSub, Int.reduceLT, Int.reduceLE, Int.reduceGT, Int.reduceGE, Int.reduceEq, Int.reduceBEq, Int.reduceBNe, Int.reduceAdd, Int.reduceSub, Int.reduceNeg, Int.reduceToNat, beq_self_eq_true, bne_self_eq_false, Nat.add_zero, reduceCtorEq, List.take_succ_eq_append_getElem hlt, List.foldl_append, List.foldl_cons, List.foldl_nil]; rfl
      · right
        have hlt' : ¬ (i : Int) < s.data.toList.length := by omega
        refine ⟨.exit 0, ?_⟩
        simp only [m202l0, go_sem, ↓reduceIte, Nat.add_assoc, Nat.add_left_cancel_iff, Nat.add_eq_left, Nat.left_eq_add, Nat.reduceEqDiff, Nat.reduceLeDiff, Nat.reduceAdd, Nat.reduceSub, Int.reduceLT, Int.reduceLE, Int.reduceGT, Int.reduceGE, Int.reduceEq, Int.reduceBEq, Int.reduceBNe, Int.reduceAdd, Int.reduceSub, Int.reduceNeg, Int.reduceToNat, beq_self_eq_true, bne_self_eq_false, Nat.add_zero, reduceCtorEq, h0, h6, h7, h3, hlt']
        refine ⟨_, _, rfl, by simp, hk.same _, ?_⟩
        simp only [go_sem, ↓reduceIte, Nat.add_assoc, Nat.add_left_cancel_iff, Nat.add_eq_left, Nat.left_eq_add, Nat.reduceEqDiff, Nat.reduceLeDiff, Nat.reduceAdd, Nat.reduceSub, Int.reduceLT, Int.reduceLE, Int.reduceGT, Int.reduceGE, Int.reduceEq, Int.reduceBEq, Int.reduceBNe, Int.reduceAdd, Int.reduceSub, Int.reduceNeg, Int.reduceToNat, beq_self_eq_true, bne_self_eq_false, Nat.add_zero, reduceCtorEq, h3, sumI]
        rw [List.take_of_length_le (by omega)]) rounds 0
    (upd (upd (upd (upd (upd (env0 [.str s]) 2 (.int .u64 0)) 3 (.int .u64 14695981039346656037)) 5 (.str s)) 6 (.int .i64 s.size)) 7 (.int .i64 0)) ⟨st.next + 5, st.boxes, st.iters, st.gens⟩
    (Nat.zero_le _) (by unfold rounds; omega) ⟨by simp only [go_sem, ↓reduceIte, Nat.add_assoc, Nat.add_left_cancel_iff, Nat.add_eq_left, Nat.left_eq_add, Nat.reduceEqDiff, Nat.reduceLeDiff, Nat.reduceAdd, Nat.reduceSub, Int.reduceLT, Int.reduceLE, Int.reduceGT, Int.reduceGE, Int.reduceEq, Int.reduceBEq, Int.reduceBNe, Int.reduceAdd, Int.reduceSub, Int.reduceNeg, Int.reduceToNat, beq_self_eq_true, bne_self_eq_false, Nat.add_zero, reduceCtorEq], by simp only [go_sem, ↓reduceIte, Nat.add_assoc, Nat.add_left_cancel_iff, Nat.add_eq_left, Nat.left_eq_add, Nat.reduceEqDiff, Nat.reduceLeDiff, Nat.reduceAdd, Nat.reduceSub, Int.reduceLT, Int.reduceLE, Int.reduceGT, Int.reduceGE, Int.reduceEq, Int.reduceBEq, Int.reduceBNe, Int.reduceAdd, Int.reduceSub, Int.reduceNeg, Int.reduceToNat, beq_self_eq_true, bne_self_eq_false, Nat.add_zero, reduceCtorEq, hsz], by simp only [go_sem, ↓reduceIte, Nat.add_assoc, Nat.add_left_cancel_iff, Nat.add_eq_left, Nat.left_eq_add, Nat.reduceEqDiff, Nat.reduceLeDiff, Nat.reduceAdd, Nat.reduceSub, Int.reduceLT, Int.reduceLE, Int.reduceGT, Int.reduceGE, Int.reduceEq, Int.reduceBEq, Int.reduceBNe, Int.reduceAdd, Int.reduceSub, Int.reduceNeg, Int.reduceToNat, beq_self_eq_true, bne_self_eq_false, Nat.add_zero, reduceCtorEq] <;> rfl, by simp only [go_sem, ↓reduceIte, Nat.add_assoc, Nat.add_left_cancel_iff, Nat.add_eq_left, Nat.left_eq_add, Nat.reduceEqDiff, Nat.reduceLeDiff, Nat.reduceAdd, Nat.reduceSub, Int.reduceLT, Int.reduceLE, Int.reduceGT, Int.reduceGE, Int.reduceEq, Int.reduceBEq, Int.reduceBNe, Int.reduceAdd, Int.reduceSub, Int.reduceNeg, Int.reduceToNat, beq_self_eq_true, bne_self_eq_false, Nat.add_zero, reduceCtorEq] <;> rfl, Keeps.base⟩
  obtain ⟨rfl, hp⟩ := hp
  simp only [m202, go_sem, ↓reduceIte, Nat.add_assoc, Nat.add_left_cancel_iff, Nat.add_eq_left, Nat.left_eq_add, Nat.reduceEqDiff, Nat.reduceLeDiff, Nat.reduceAdd, Nat.reduceSub, Int.reduceLT, Int.reduceLE, Int.reduceGT, Int.reduceGE, Int.reduceEq, Int.reduceBEq, Int.reduceBNe, Int.reduceAdd, Int.reduceSub, Int.reduceNeg, Int.reduceToNat, beq_self_eq_true, bne_self_eq_false, Nat.add_zero, reduceCtorEq, hl, hp]
  exact ⟨_, _, rfl, hk.same _, rfl, fun _ => rfl⟩

def hashI (s : ByteArray) : Int := mixI (sumI s)

theorem place_tells (s : ByteArray) (hs : s.size < 1000000000000) : Tells T 1 109 true [.str s] (.int .u64 (hashI s)) := by
  refine ⟨m109, TF F109, fun d st hd => ?_⟩
  obtain ⟨d, rfl⟩ : ∃ k, d = k + 1 := ⟨d - 1, by omega⟩
  have h1 := fun z => (sum_tells s hs).call (T := T) (c := 109) rfl (d := d) (by omega) (args := [.str s]) (st := z) (by simp only [frozs_cons, froz_str, frozs_nil])
  have h2 := fun z => (mix_tells (sumI s)).call (T := T) (c := 109) rfl (d := d) (by omega) (args := [.int .u64 (sumI s)]) (st := z) (by simp only [frozs_cons, froz_int, frozs_nil])
  simp only [m109, go_sem, ↓reduceIte, Nat.add_assoc, Nat.add_left_cancel_iff, Nat.add_eq_left, Nat.left_eq_add, Nat.reduceEqDiff, Nat.reduceLeDiff, Nat.reduceAdd, Nat.reduceSub, Int.reduceLT, Int.reduceLE, Int.reduceGT, Int.reduceGE, Int.reduceEq, Int.reduceBEq, Int.reduceBNe, Int.reduceAdd, Int.reduceSub, Int.reduceNeg, Int.reduceToNat, beq_self_eq_true, bne_self_eq_false, Nat.add_zero, reduceCtorEq, h1, h2]
  exact ⟨_, _, rfl, by (repeat (first | exact Keeps.base | (refine Keeps.copy rfl hN hs ?_ ?_ ?_) | exact Keeps.same (by assumption) _ | apply Keeps.box1 (n := 0) | apply Keeps.gen1 (n := 0) | omega)), rfl, fun _ => rfl⟩

theorem clo207 {d c id : Nat} {k : Int} (j : JobV) {st : St} (hb : st.boxes id = some [.int .i64 k]) (hid : id < st.next) : callN T (d + 1) c 207 [av j, .ptr id 0] st = some (.bool (j.kind == k), st) := by
  refine raw_of rfl (TF F207) ?_
  simp only [m207, av_job, go_sem, ↓reduceIte, Nat.add_assoc, Nat.add_left_cancel_iff, Nat.add_eq_left, Nat.left_eq_add, Nat.reduceEqDiff, Nat.reduceLeDiff, Nat.reduceAdd, Nat.reduceSub, Int.reduceLT, Int.reduceLE, Int.reduceGT, Int.reduceGE, Int.reduceEq, Int.reduceBEq, Int.reduceBNe, Int.reduceAdd, Int.reduceSub, Int.reduceNeg, Int.reduceToNat, beq_self_eq_true, bne_self_eq_false, Nat.add_zero, reduceCtorEq, hb, show ¬ id = st.next by omega]
  exact ⟨_, _, rfl, by (repeat (first | exact Keeps.base | (refine Keeps.copy rfl hN hs ?_ ?_ ?_) | exact Keeps.same (by assumption) _ | apply Keeps.box1 (n := 0) | apply Keeps.gen1 (n := 0) | omega)), rfl⟩

theorem busy_tells (js : List JobV) (hl : js.length < 1000000000000) (k : Int) : Tells T 3 112 true [lst js, .int .i64 k] (.bool (js.any fun j => j.kind == k)) := by
  refine ⟨m112, TF F112, fun d st hd => ?_⟩
  obtain ⟨d, rfl⟩ : ∃ k, d = k + 3 := ⟨d - 3, by omega⟩
  have h := con_call (T := T) (d := d + 1) (c := 112) (f' := 206) (f := 261) (g := 207) (cs := [.ptr st.next 0]) rfl (TF F206) rfl (TF F261) rfl (by decide) (xs := js) (p := fun j => j.kind == k) (v := lst js)
    (st := ⟨st.next + 6, upd st.boxes st.next (some [.int .i64 k]), st.iters, st.gens⟩) (Rd.lst _ _) hl (fun x _ st' h1 h2 => clo207 x ((h2.box st.next (by simp only; omega)).trans (by simp only [go_sem, ↓reduceIte, Nat.add_assoc, Nat.add_left_cancel_iff, Nat.add_eq_left, Nat.left_eq_add, Nat.reduceEqDiff, Nat.reduceLeDiff, Nat.reduceAdd, Nat.reduceSub, Int.reduceLT, Int.reduceLE, Int.reduceGT, Int.reduceGE, Int.reduceEq, Int.reduceBEq, Int.reduceBNe, Int.reduceAdd, Int.reduceSub, Int.reduceNeg, Int.reduceToNat, beq_self_eq_true, bne_self_eq_false, Nat.add_zero, reduceCtorEq])) (by simp only at h1; omega))
  simp only [m112, go_sem, ↓reduceIte, Nat.add_assoc, Nat.add_left_cancel_iff, Nat.add_eq_left, Nat.left_eq_add, Nat.reduceEqDiff, Nat.reduceLeDiff, Nat.reduceAdd, Nat.reduceSub, Int.reduceLT, Int.reduceLE, Int.reduceGT, Int.reduceGE, Int.reduceEq, Int.reduceBEq, Int.reduceBNe, Int.reduceAdd, Int.reduceSub, Int.reduceNeg, Int.reduceToNat, beq_self_eq_true, bne_self_eq_false, Nat.add_zero, reduceCtorEq, h]
  exact ⟨_, _, rfl, by (repeat (first | exact Keeps.base | (refine Keeps.copy rfl hN hs ?_ ?_ ?_) | exact Keeps.same (by assumption) _ | apply Keeps.box1 (n := 0) | apply Keeps.gen1 (n := 0) | omega)), rfl, fun _ => rfl⟩

theorem clo262 {d c id : Nat} {k : Int} (j : JobV) {st : St} (hb : st.boxes id = some [.int .i64 k]) (hid : id < st.next) : callN T (d + 1) c 262 [av j, .ptr id 0] st = some (.bool (j.id == k), st) := by
  refine raw_of rfl (TF F262) ?_
  simp only [m262, av_job, go_sem, ↓reduceIte, Nat.add_assoc, Nat.add_left_cancel_iff, Nat.add_eq_left, Nat.left_eq_add, Nat.reduceEqDiff, Nat.reduceLeDiff, Nat.reduceAdd, Nat.reduceSub, Int.reduceLT, Int.reduceLE, Int.reduceGT, Int.reduceGE, Int.reduceEq, Int.reduceBEq, Int.reduceBNe, Int.reduceAdd, Int.reduceSub, Int.reduceNeg, Int.reduceToNat, beq_self_eq_true, bne_self_eq_false, Nat.add_zero, reduceCtorEq, hb, show ¬ id = st.next by omega]
  exact ⟨_, _, rfl, by (repeat (first | exact Keeps.base | (refine Keeps.copy rfl hN hs ?_ ?_ ?_) | exact Keeps.same (by assumption) _ | apply Keeps.box1 (n := 0) | apply Keeps.gen1 (n := 0) | omega)), rfl⟩

theorem jfind_tells (js : List JobV) (hl : js.length < 1000000000000) (k : Int) : Tells T 2 208 true [lst js, .int .i64 k] (.int .i64 (indexF (fun j => j.id == k) js)) := by
  refine ⟨m208, TF F208, fun d st hd => ?_⟩
  obtain ⟨d, rfl⟩ : ∃ k, d = k + 2 := ⟨d - 2, by omega⟩
  have h := idx_call (T := T) (d := d + 1) (c := 208) (f := 261) (g := 262) (cs := [.ptr st.next 0]) rfl (TF F261) rfl (by decide) (xs := js) (p := fun j => j.id == k) (v := lst js)
    (st := ⟨st.next + 6, upd st.boxes st.next (some [.int .i64 k]), st.iters, st.gens⟩) (Rd.lst _ _) hl (fun x _ st' h1 h2 => clo262 x ((h2.box st.next (by simp only; omega)).trans (by simp only [go_sem, ↓reduceIte, Nat.add_assoc, Nat.add_left_cancel_iff, Nat.add_eq_left, Nat.left_eq_add, Nat.reduceEqDiff, Nat.reduceLeDiff, Nat.reduceAdd, Nat.reduceSub, Int.reduceLT, Int.reduceLE, Int.reduceGT, Int.reduceGE, Int.reduceEq, Int.reduceBEq, Int.reduceBNe, Int.reduceAdd, Int.reduceSub, Int.reduceNeg, Int.reduceToNat, beq_self_eq_true, bne_self_eq_false, Nat.add_zero, reduceCtorEq])) (by simp only at h1; omega))
  simp only [m208, go_sem, ↓reduceIte, Nat.add_assoc, Nat.add_left_cancel_iff, Nat.add_eq_left, Nat.left_eq_add, Nat.reduceEqDiff, Nat.reduceLeDiff, Nat.reduceAdd, Nat.reduceSub, Int.reduceLT, Int.reduceLE, Int.reduceGT, Int.reduceGE, Int.reduceEq, Int.reduceBEq, Int.reduceBNe, Int.reduceAdd, Int.reduceSub, Int.reduceNeg, Int.reduceToNat, beq_self_eq_true, bne_self_eq_false, Nat.add_zero, reduceCtorEq, h]
  exact ⟨_, _, rfl, by (repeat (first | exact Keeps.base | (refine Keeps.copy rfl hN hs ?_ ?_ ?_) | exact Keeps.same (by assumption) _ | apply Keeps.box1 (n := 0) | apply Keeps.gen1 (n := 0) | omega)), rfl, fun _ => rfl⟩

theorem froz_famn {α : Type} [Enc α] (n : Nat) (g : Nat → Nat) (τ g0 o s : Nat) (xs : List α) (h1 : g τ = g0) (h2 : n ≤ τ) (h3 : s = Enc.sz α) : froz n g (.sl (.fam τ g0 o) s (xs.map av)) = some (lst xs) :=
  froz_fam n g τ g0 o s xs h1 h2 (.inl h3)

/-- A job's number. -/
def nextID (n : NodeV) : Int := if n.jobID < 0 ∨ n.jobID ≥ 1073741824 then 1 else n.jobID + 1
/-- A job that is added. -/
def addJ (n : NodeV) (j : JobV) : JobV := { j with id := nextID n, due := now n + 200 }

theorem now_range (k : Int) : 0 ≤ nowC k ∧ nowC k ≤ 1099511627776 := by unfold nowC; split <;> omega

theorem add_tells (n : NodeV) (hs : Small n) (hj : n.jobs.length < 8) (j : JobV) : Tells T 2 200 true [av n, av j] (.tup [av { n with jobID := nextID n, jobs := n.jobs ++ [addJ n j] }, .int .i64 (nextID n), .int .i64 0]) := by
  refine ⟨m200, TF F200, fun d st hd => ?_⟩
  obtain ⟨d, rfl⟩ : ∃ k, d = k + 2 := ⟨d - 2, by omega⟩
  have hN := NRd.lst st n
  have hj' : ¬ (n.jobs.length : Int) ≥ 8 := by omega
  have hnow := now_range n.clock
  have hO := NRd.fam st n (m := st.next + 54) (k1 := st.next + 25) (k2 := st.next + 26) (k3 := st.next + 27) (k4 := st.next + 38) (k5 := st.next + 39) (k6 := st.next + 50) (k7 := st.next + 51) st.boxes st.iters (by omega) (by omega) (by omega) (by omega) (by omega) (by omega) (by omega)
  have hlen : n.jobs.length + 1 ≤ 1099511627776 := by omega
  by_cases h1 : n.jobID < 0
  · simp (disch := omega) only [m200, av_node, av_job, go_sem, ↓reduceIte, Nat.add_assoc, Nat.add_left_cancel_iff, Nat.add_eq_left, Nat.left_eq_add, Nat.reduceEqDiff, Nat.reduceLeDiff, Nat.reduceAdd, Nat.reduceSub, Int.reduceLT, Int.reduceLE, Int.reduceGT, Int.reduceGE, Int.reduceEq, Int.reduceBEq, Int.reduceBNe, Int.reduceAdd, Int.reduceSub, Int.reduceNeg, Int.reduceToNat, beq_self_eq_true, bne_self_eq_false, Nat.add_zero, reduceCtorEq, copy_eq (c := 200) rfl hN hs, copyB_old (c := 200) rfl hN hs, hj', List.length_map, h1, now_eq hO, wrap_small, hlen]
    refine ⟨_, _, rfl, by (repeat (first | exact Keeps.base | (refine Keeps.copy rfl hN hs ?_ ?_ ?_) | exact Keeps.same (by assumption) _ | apply Keeps.box1 (n := 0) | apply Keeps.gen1 (n := 0) | omega)), ?_, fun _ => by simp only [fresh, freshs, fresh_map, freshs_app, Bool.and_self, List.isEmpty_nil, List.isEmpty_cons]⟩
    simp (disch := omega) only [froz_tup, froz_agg, frozs_cons, frozs_nil, froz_int, froz_bool, froz_str, froz_nil, froz_lst, froz_fam_eq, frozs_map, frozs_app, Option.map_some, Nat.le_add_right, Bool.and_self, go_sem, ↓reduceIte, Nat.add_assoc, Nat.add_left_cancel_iff, Nat.add_eq_left, Nat.left_eq_add, Nat.reduceEqDiff, Nat.reduceLeDiff, Nat.reduceAdd, Nat.reduceSub, Int.reduceLT, Int.reduceLE, Int.reduceGT, Int.reduceGE, Int.reduceEq, Int.reduceBEq, Int.reduceBNe, Int.reduceAdd, Int.reduceSub, Int.reduceNeg, Int.reduceToNat, beq_self_eq_true, bne_self_eq_false, Nat.add_zero, reduceCtorEq, nextID, addJ, h1, true_or, lst, List.map_append, av_job, now]; rfl
  · by_cases h2 : n.jobID ≥ 1073741824
    · simp (disch := omega) only [m200, av_node, av_job, go_sem, ↓reduceIte, Nat.add_assoc, Nat.add_left_cancel_iff, Nat.add_eq_left, Nat.left_eq_add, Nat.reduceEqDiff, Nat.reduceLeDiff, Nat.reduceAdd, Nat.reduceSub, Int.reduceLT, Int.reduceLE, Int.reduceGT, Int.reduceGE, Int.reduceEq, Int.reduceBEq, Int.reduceBNe, Int.reduceAdd, Int.reduceSub, Int.reduceNeg, Int.reduceToNat, beq_self_eq_true, bne_self_eq_false, Nat.add_zero, reduceCtorEq, copy_eq (c := 200) rfl hN hs, copyB_old (c := 200) rfl hN hs, hj', List.length_map, h1, h2, now_eq hO, wrap_small, hlen]
      refine ⟨_, _, rfl, by (repeat (first | exact Keeps.base | (refine Keeps.copy rfl hN hs ?_ ?_ ?_) | exact Keeps.same (by assumption) _ | apply Keeps.box1 (n := 0) | apply Keeps.gen1 (n := 0) | omega)), ?_, fun _ => by simp only [fresh, freshs, fresh_map, freshs_app, Bool.and_self, List.isEmpty_nil, List.isEmpty_cons]⟩
      simp (disch := omega) only [froz_tup, froz_agg, frozs_cons, frozs_nil, froz_int, froz_bool, froz_str, froz_nil, froz_lst, froz_fam_eq, frozs_map, frozs_app, Option.map_some, Nat.le_add_right, Bool.and_self, go_sem, ↓reduceIte, Nat.add_assoc, Nat.add_left_cancel_iff, Nat.add_eq_left, Nat.left_eq_add, Nat.reduceEqDiff, Nat.reduceLeDiff, Nat.reduceAdd, Nat.reduceSub, Int.reduceLT, Int.reduceLE, Int.reduceGT, Int.reduceGE, Int.reduceEq, Int.reduceBEq, Int.reduceBNe, Int.reduceAdd, Int.reduceSub, Int.reduceNeg, Int.reduceToNat, beq_self_eq_true, bne_self_eq_false, Nat.add_zero, reduceCtorEq, nextID, addJ, h1, h2, or_true, lst, List.map_append, av_job, now]; rfl
    · simp (disch := omega) only [m200, av_node, av_job, go_sem, ↓reduceIte, Nat.add_assoc, Nat.add_left_cancel_iff, Nat.add_eq_left, Nat.left_eq_add, Nat.reduceEqDiff, Nat.reduceLeDiff, Nat.reduceAdd, Nat.reduceSub, Int.reduceLT, Int.reduceLE, Int.reduceGT, Int.reduceGE, Int.reduceEq, Int.reduceBEq, Int.reduceBNe, Int.reduceAdd, Int.reduceSub, Int.reduceNeg, Int.reduceToNat, beq_self_eq_true, bne_self_eq_false, Nat.add_zero, reduceCtorEq, copy_eq (c := 200) rfl hN hs, copyB_old (c := 200) rfl hN hs, hj', List.length_map, h1, h2, now_eq hO, wrap_small, hlen]
      refine ⟨_, _, rfl, by (repeat (first | exact Keeps.base | (refine Keeps.copy rfl hN hs ?_ ?_ ?_) | exact Keeps.same (by assumption) _ | apply Keeps.box1 (n := 0) | apply Keeps.gen1 (n := 0) | omega)), ?_, fun _ => by simp only [fresh, freshs, fresh_map, freshs_app, Bool.and_self, List.isEmpty_nil, List.isEmpty_cons]⟩
      simp (disch := omega) only [froz_tup, froz_agg, frozs_cons, frozs_nil, froz_int, froz_bool, froz_str, froz_nil, froz_lst, froz_fam_eq, frozs_map, frozs_app, Option.map_some, Nat.le_add_right, Bool.and_self, go_sem, ↓reduceIte, Nat.add_assoc, Nat.add_left_cancel_iff, Nat.add_eq_left, Nat.left_eq_add, Nat.reduceEqDiff, Nat.reduceLeDiff, Nat.reduceAdd, Nat.reduceSub, Int.reduceLT, Int.reduceLE, Int.reduceGT, Int.reduceGE, Int.reduceEq, Int.reduceBEq, Int.reduceBNe, Int.reduceAdd, Int.reduceSub, Int.reduceNeg, Int.reduceToNat, beq_self_eq_true, bne_self_eq_false, Nat.add_zero, reduceCtorEq, nextID, addJ, h1, h2, or_self, lst, List.map_append, av_job, now]; rfl

/-! ### a job is set -/

theorem cells_job (j : JobV) : (av j).cells = [.int .i64 j.id, .int .i64 j.kind, .int .i64 j.bit, .str j.key, .str j.val, .int .u64 j.target, .int .u64 j.via.id, .int .u16 j.via.addr, .int .u64 j.at_.id, .int .u16 j.at_.addr, .bool j.doing, .int .i64 j.hops, .int .i64 j.tries, .int .i64 j.due] := rfl


/-- What a call leaves behind. -/
noncomputable def bxs (d c f : Nat) (args : List AV) (st : St) : Nat → Option (List AV) := match callN T d c f args st with
  | some r => r.2.boxes
  | none => fun _ => none

theorem jfind_eq {d c : Nat} {st : St} {v : AV} {js : List JobV} (h : Rd st v js) (hl : js.length < 1000000000000) (k : Int) (m : Nat) (b : Nat → Option (List AV)) (i : Nat → Option (ByteArray × Nat)) :
    callN T (d + 3) c 208 [v, .int .i64 k] ⟨m, b, i, st.gens⟩ = some (.int .i64 (indexF (fun j => j.id == k) js), ⟨m, b, i, st.gens⟩) :=
  (jfind_tells js hl k).lent rfl (by omega) (by simp only [frozs, h.froz, froz_int])

theorem elt_load {α : Type} [Enc α] {st : St} {v : AV} {xs : List α} (h : Rd st v xs) (hs1 : Enc.sz α ≠ 1) {i : Nat} (hi : i < xs.length) (n : Nat) (bx : Nat → Option (List AV)) (it : Nat → Option (ByteArray × Nat)) (sz : Nat) (hsz : sz = Enc.sz α) :
    evLoad ⟨n, bx, it, st.gens⟩ true sz (elt v i 0) = some (av xs[i]) := by
  rw [h.load (List.getElem?_eq_getElem hi) n bx it true sz 0 (by omega), getR_whole _ _ hsz hs1]

theorem store_fld {α : Type} [Enc α] {e : Env} {n a id off τ g o sz i : Nat} {b : Nat → Option (List AV)} {it : Nat → Option (ByteArray × Nat)} {gs : Nat → Nat} {xs : List α} (x : α) (hsz : sz = Enc.sz α) (hs1 : Enc.sz α ≠ 1) (hg : gs τ = g) (hi : i < xs.length) (he : e a = .ptr id off)
    (hv : evLoad ⟨n, b, it, gs⟩ false 1 (.ptr id off) = some (.sl (.fam τ g o) sz (xs.map av))) :
    evStore e ⟨n, b, it, gs⟩ sz (elt (.sl (.fam τ g o) sz (xs.map av)) i 0) (av x) (some (.fld (.t a))) =
      match b id with | some cs => (match setR cs off [.sl (.fam τ (g + 1) o) sz ((xs.set i x).map av)] with | some cs' => some (e, ⟨n, upd b id (some cs'), it, upd gs τ (g + 1)⟩) | none => none) | none => none := by
  subst hsz
  have hx : (xs.map av)[i]? = some (av xs[i]) := by simp [hi]
  simp only [elt, evStore, Enc.cells, Enc.ok, and_self, if_true, plGet, ev_t, he, hv, hg, hx, Option.bind_some, setR_av, plSet, recell_av _ _ hs1, List.map_set]
  cases b id with
  | none => rfl
  | some cs => simp only [Option.bind_some]; cases setR cs off _ <;> rfl

theorem set_keep {d c : Nat} {st : St} {n : NodeV} {p l f s w jj r : AV} (h : NRd st n p l f s w jj r) (hs : Small n) (j : JobV) {k : Nat} (hk : indexF (fun x => x.id == j.id) n.jobs = (k : Nat)) (hkl : k < n.jobs.length) (m : Nat) (b : Nat → Option (List AV)) (i : Nat → Option (ByteArray × Nat)) (hm : st.next ≤ m) :
    ∃ b', callN T (d + 4) c 263 [.agg [.int .u64 n.me.id, .int .u16 n.me.addr, .int .i64 n.clock, .bool n.joined, p, l, f, s, w, jj, r, .int .u32 n.rid, .int .i64 n.jobID, .int .i64 n.nextBit], av j] ⟨m, b, i, st.gens⟩ =
      some (.agg [.int .u64 n.me.id, .int .u16 n.me.addr, .int .i64 n.clock, .bool n.joined, .sl (.fam (m + 23) (st.gens (m + 23)) 0) 3 (n.pred.map av), .sl (.fam (m + 24) (st.gens (m + 24)) 0) 3 (n.list.map av), .sl (.fam (m + 25) (st.gens (m + 25)) 0) 3 (n.fingers.map av),
        .sl (.fam (m + 36) (st.gens (m + 36)) 0) 2 (n.store.map av), .sl (.fam (m + 37) (st.gens (m + 37)) 0) 7 (n.pends.map av), .sl (.fam (m + 48) (st.gens (m + 48) + 1) 0) 14 ((n.jobs.set k j).map av), .sl (.fam (m + 49) (st.gens (m + 49)) 0) 6 (n.results.map av),
        .int .u32 n.rid, .int .i64 n.jobID, .int .i64 n.nextBit], ⟨m + 68, b', i, upd st.gens (m + 48) (st.gens (m + 48) + 1)⟩) ∧ ∀ q, q < m → b' q = b q := by
  rw [callN_keep rfl (TF F263)]
  have hO := NRd.fam st n (m := m + 52) (k1 := m + 23) (k2 := m + 24) (k3 := m + 25) (k4 := m + 36) (k5 := m + 37) (k6 := m + 48) (k7 := m + 49) st.boxes st.iters (by omega) (by omega) (by omega) (by omega) (by omega) (by omega) (by omega)
  have hlen : n.jobs.length < 1000000000000 := by have := hs.jobs; omega
  have hk0 : (k : Int) ≥ 0 := by omega
  have hav : AV.agg [.int .i64 j.id, .int .i64 j.kind, .int .i64 j.bit, .str j.key, .str j.val, .int .u64 j.target, .int .u64 j.via.id, .int .u16 j.via.addr, .int .u64 j.at_.id, .int .u16 j.at_.addr, .bool j.doing, .int .i64 j.hops, .int .i64 j.tries, .int .i64 j.due] = av j := rfl
  have hkl' : (k : Int) < n.jobs.length := by omega
  have hst : ∀ (e : Env) (m' : Nat) (b' : Nat → Option (List AV)), e 15 = .ptr m 9 →
      b' m = some [.int .u64 n.me.id, .int .u16 n.me.addr, .int .i64 n.clock, .bool n.joined, .sl (.fam (m + 23) (st.gens (m + 23)) 0) 3 (n.pred.map av), .sl (.fam (m + 24) (st.gens (m + 24)) 0) 3 (n.list.map av), .sl (.fam (m + 25) (st.gens (m + 25)) 0) 3 (n.fingers.map av),
        .sl (.fam (m + 36) (st.gens (m + 36)) 0) 2 (n.store.map av), .sl (.fam (m + 37) (st.gens (m + 37)) 0) 7 (n.pends.map av), .sl (.fam (m + 48) (st.gens (m + 48)) 0) 14 (n.jobs.map av), .sl (.fam (m + 49) (st.gens (m + 49)) 0) 6 (n.results.map av),
        .int .u32 n.rid, .int .i64 n.jobID, .int .i64 n.nextBit] →
      evStore e ⟨m', b', i, st.gens⟩ 14 (elt (.sl (.fam (m + 48) (st.gens (m + 48)) 0) 14 (n.jobs.map av)) k 0) (av j) (some (.fld (.t 15))) =
        some (e, ⟨m', upd b' m (some [.int .u64 n.me.id, .int .u16 n.me.addr, .int .i64 n.clock, .bool n.joined, .sl (.fam (m + 23) (st.gens (m + 23)) 0) 3 (n.pred.map av), .sl (.fam (m + 24) (st.gens (m + 24)) 0) 3 (n.list.map av), .sl (.fam (m + 25) (st.gens (m + 25)) 0) 3 (n.fingers.map av),
        .sl (.fam (m + 36) (st.gens (m + 36)) 0) 2 (n.store.map av), .sl (.fam (m + 37) (st.gens (m + 37)) 0) 7 (n.pends.map av), .sl (.fam (m + 48) (st.gens (m + 48) + 1) 0) 14 ((n.jobs.set k j).map av), .sl (.fam (m + 49) (st.gens (m + 49)) 0) 6 (n.results.map av),
        .int .u32 n.rid, .int .i64 n.jobID, .int .i64 n.nextBit]), i, upd st.gens (m + 48) (st.gens (m + 48) + 1)⟩) := fun e m' b' he hb => by
    refine (store_fld (sz := 14) (τ := m + 48) (o := 0) (xs := n.jobs) j rfl (by decide) rfl hkl he (by simp only [go_sem, ↓reduceIte, Nat.add_assoc, Nat.add_left_cancel_iff, Nat.add_eq_left, Nat.left_eq_add, Nat.reduceEqDiff, Nat.reduceLeDiff, Nat.reduceAdd, Nat.reduceSub, Int.reduceLT, Int.reduceLE, Int.reduceGT, Int.reduceGE, Int.reduceEq, Int.reduceBEq, Int.reduceBNe, Int.reduceAdd, Int.reduceSub, Int.reduceNeg, Int.reduceToNat, beq_self_eq_true, bne_self_eq_false, Nat.add_zero, reduceCtorEq, hb])).trans ?_
    simp only [go_sem, ↓reduceIte, Nat.add_assoc, Nat.add_left_cancel_iff, Nat.add_eq_left, Nat.left_eq_add, Nat.reduceEqDiff, Nat.reduceLeDiff, Nat.reduceAdd, Nat.reduceSub, Int.reduceLT, Int.reduceLE, Int.reduceGT, Int.reduceGE, Int.reduceEq, Int.reduceBEq, Int.reduceBNe, Int.reduceAdd, Int.reduceSub, Int.reduceNeg, Int.reduceToNat, beq_self_eq_true, bne_self_eq_false, Nat.add_zero, reduceCtorEq, hb]
  simp (disch := first | omega | (simp (disch := omega) only [go_sem, ↓reduceIte, Nat.add_assoc, Nat.add_left_cancel_iff, Nat.add_eq_left, Nat.left_eq_add, Nat.reduceEqDiff, Nat.reduceLeDiff, Nat.reduceAdd, Nat.reduceSub, Int.reduceLT, Int.reduceLE, Int.reduceGT, Int.reduceGE, Int.reduceEq, Int.reduceBEq, Int.reduceBNe, Int.reduceAdd, Int.reduceSub, Int.reduceNeg, Int.reduceToNat, beq_self_eq_true, bne_self_eq_false, Nat.add_zero, reduceCtorEq, copyB_old (c := 263) rfl h hs])) only [m263, cells_job, go_sem, ↓reduceIte, Nat.add_assoc, Nat.add_left_cancel_iff, Nat.add_eq_left, Nat.left_eq_add, Nat.reduceEqDiff, Nat.reduceLeDiff, Nat.reduceAdd, Nat.reduceSub, Int.reduceLT, Int.reduceLE, Int.reduceGT, Int.reduceGE, Int.reduceEq, Int.reduceBEq, Int.reduceBNe, Int.reduceAdd, Int.reduceSub, Int.reduceNeg, Int.reduceToNat, beq_self_eq_true, bne_self_eq_false, Nat.add_zero, reduceCtorEq, copy_eq (c := 263) rfl h hs, copyB_old (c := 263) rfl h hs, jfind_eq hO.jobs hlen, hk, hk0, hO.jobs.iadr (sz := 14) rfl (Int.natCast_nonneg k) hkl', Int.toNat_natCast, hav, hst]
  refine ⟨_, rfl, fun q hq => ?_⟩
  simp (disch := omega) only [upd, copyB_old (c := 263) rfl h hs]
  repeat rw [if_neg (by omega)]

/-- The state that a call leaves behind. -/
noncomputable def aft (d c f : Nat) (args : List AV) (st : St) : St := match callN T d c f args st with
  | some r => r.2
  | none => st

theorem set_eq {d c : Nat} {st : St} {n : NodeV} {p l f s w jj r : AV} (h : NRd st n p l f s w jj r) (hs : Small n) (j : JobV) {k : Nat} (hk : indexF (fun x => x.id == j.id) n.jobs = (k : Nat)) (hkl : k < n.jobs.length) (m : Nat) (b : Nat → Option (List AV)) (i : Nat → Option (ByteArray × Nat)) (hm : st.next ≤ m) :
    callN T (d + 4) c 263 [.agg [.int .u64 n.me.id, .int .u16 n.me.addr, .int .i64 n.clock, .bool n.joined, p, l, f, s, w, jj, r, .int .u32 n.rid, .int .i64 n.jobID, .int .i64 n.nextBit], av j] ⟨m, b, i, st.gens⟩ =
      some (.agg [.int .u64 n.me.id, .int .u16 n.me.addr, .int .i64 n.clock, .bool n.joined, .sl (.fam (m + 23) (st.gens (m + 23)) 0) 3 (n.pred.map av), .sl (.fam (m + 24) (st.gens (m + 24)) 0) 3 (n.list.map av), .sl (.fam (m + 25) (st.gens (m + 25)) 0) 3 (n.fingers.map av),
        .sl (.fam (m + 36) (st.gens (m + 36)) 0) 2 (n.store.map av), .sl (.fam (m + 37) (st.gens (m + 37)) 0) 7 (n.pends.map av), .sl (.fam (m + 48) (st.gens (m + 48) + 1) 0) 14 ((n.jobs.set k j).map av), .sl (.fam (m + 49) (st.gens (m + 49)) 0) 6 (n.results.map av),
        .int .u32 n.rid, .int .i64 n.jobID, .int .i64 n.nextBit], ⟨m + 68, bxs (d + 4) c 263 [.agg [.int .u64 n.me.id, .int .u16 n.me.addr, .int .i64 n.clock, .bool n.joined, p, l, f, s, w, jj, r, .int .u32 n.rid, .int .i64 n.jobID, .int .i64 n.nextBit], av j] ⟨m, b, i, st.gens⟩, i, upd st.gens (m + 48) (st.gens (m + 48) + 1)⟩) := by
  obtain ⟨b', h1, _⟩ := set_keep (d := d) (c := c) h hs j hk hkl m b i hm
  simp only [bxs, h1]

theorem set_old {d c : Nat} {st : St} {n : NodeV} {p l f s w jj r : AV} (h : NRd st n p l f s w jj r) (hs : Small n) (j : JobV) {k : Nat} (hk : indexF (fun x => x.id == j.id) n.jobs = (k : Nat)) (hkl : k < n.jobs.length) (m : Nat) (b : Nat → Option (List AV)) (i : Nat → Option (ByteArray × Nat)) (q : Nat) (hm : st.next ≤ m) (hq : q < m) :
    bxs (d + 4) c 263 [.agg [.int .u64 n.me.id, .int .u16 n.me.addr, .int .i64 n.clock, .bool n.joined, p, l, f, s, w, jj, r, .int .u32 n.rid, .int .i64 n.jobID, .int .i64 n.nextBit], av j] ⟨m, b, i, st.gens⟩ q = b q := by
  obtain ⟨b', h1, h2⟩ := set_keep (d := d) (c := c) h hs j hk hkl m b i hm
  simp only [bxs, h1]
  exact h2 q hq

attribute [irreducible] bxs

end Go.Ev.Nd
