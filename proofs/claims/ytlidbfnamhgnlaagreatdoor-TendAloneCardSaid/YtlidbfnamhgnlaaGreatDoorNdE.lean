/- A node that is alone: time goes on. -/
import Derived.Test.YtlidbfnamhgnlaaGreatDoorNdD
namespace Go.Ev.Nd
open Go Go.Ev
open Go.Ev.Enc (av)

/-- A node that is alone, and waits for nothing. -/
structure Lone (n : NodeV) : Prop where
  joined : n.joined = true
  list : n.list = []
  pred : n.pred = []
  pends : n.pends = []
  jobs : n.jobs = []

def tickA (n : NodeV) : NodeV := if (now n + 1).tmod 4 = 0 then beatA { n with clock := now n + 1 } else { n with clock := now n + 1 }

theorem tickA_tells (n : NodeV) (hs : Small n) (hn : Lone n) (hk : ∀ x ∈ n.store, x.key.size < 1000000000000) : Tells T 26 63 false [av n] (.tup [av (tickA n), lst ([] : List OutV)]) := by
  obtain ⟨hjd, hl, hp, hpe, hjs⟩ := hn
  obtain ⟨me, clock, joined, pred, list, fingers, store, pends, jobs, results, rid, jobID, nextBit⟩ := n
  simp only at hjd hl hp hjs hk hpe
  subst hjd hl hp hjs hpe
  refine ⟨m63, TF F63, fun d st hd => ?_⟩
  obtain ⟨d, rfl⟩ : ∃ k, d = k + 26 := ⟨d - 26, by omega⟩
  have hnow := now_range clock
  have hcp := fun s => (copy_tells _ hs).call (T := T) (c := 63) rfl (d := d + 25) (by omega) (args := [av (⟨me, clock, true, [], [], fingers, store, [], [], results, rid, jobID, nextBit⟩ : NodeV)]) (st := s) (by simp only [frozs_cons, froz_av, frozs_nil])
  have hno := fun s => (now_tells (⟨me, clock, true, [], [], fingers, store, [], [], results, rid, jobID, nextBit⟩ : NodeV)).call (T := T) (c := 63) rfl (d := d + 25) (by omega) (args := [av (⟨me, clock, true, [], [], fingers, store, [], [], results, rid, jobID, nextBit⟩ : NodeV)]) (st := s) (by simp only [frozs_cons, froz_av, frozs_nil])
  have hs1 : Small (⟨me, (nowC clock + 1), true, [], [], fingers, store, [], [], results, rid, jobID, nextBit⟩ : NodeV) := ⟨hs.pred, hs.list, hs.fingers, hs.store, hs.pends, hs.jobs, hs.results⟩
  have hla := fun s => (late_nil (⟨me, (nowC clock + 1), true, [], [], fingers, store, [], [], results, rid, jobID, nextBit⟩ : NodeV) hs1 rfl).call (T := T) (c := 63) rfl (d := d + 25) (by omega) (args := [av (⟨me, (nowC clock + 1), true, [], [], fingers, store, [], [], results, rid, jobID, nextBit⟩ : NodeV)]) (st := s) (by simp only [frozs_cons, froz_av, frozs_nil])
  have hjl := fun s => (jlate_nil (⟨me, (nowC clock + 1), true, [], [], fingers, store, [], [], results, rid, jobID, nextBit⟩ : NodeV) hs1 rfl).call (T := T) (c := 63) rfl (d := d + 25) (by omega) (args := [av (⟨me, (nowC clock + 1), true, [], [], fingers, store, [], [], results, rid, jobID, nextBit⟩ : NodeV)]) (st := s) (by simp only [frozs_cons, froz_av, frozs_nil])
  have hbe := fun s => (beatA_tells (⟨me, (nowC clock + 1), true, [], [], fingers, store, [], [], results, rid, jobID, nextBit⟩ : NodeV) hs1 rfl rfl rfl rfl hk).call (T := T) (c := 63) rfl (d := d + 25) (by omega) (args := [av (⟨me, (nowC clock + 1), true, [], [], fingers, store, [], [], results, rid, jobID, nextBit⟩ : NodeV)]) (st := s) (by simp only [frozs_cons, froz_av, frozs_nil])
  have k158 := fun (d : Nat) (args : List AV) (s : St) => callN_keep (T := T) (d := d) (c := 63) (f := 158) rfl (TF F158) args s
  have hav : AV.agg [.int .u64 me.id, .int .u16 me.addr, .int .i64 clock, .bool true, lst ([] : List EntryV), lst ([] : List EntryV), lst fingers, lst store, lst ([] : List PendV), lst ([] : List JobV), lst results, .int .u32 rid, .int .i64 jobID, .int .i64 nextBit] = av (⟨me, clock, true, [], [], fingers, store, [], [], results, rid, jobID, nextBit⟩ : NodeV) := rfl
  have hav1 : AV.agg [.int .u64 me.id, .int .u16 me.addr, .int .i64 (nowC clock + 1), .bool true, lst ([] : List EntryV), lst ([] : List EntryV), lst fingers, lst store, lst ([] : List PendV), lst ([] : List JobV), lst results, .int .u32 rid, .int .i64 jobID, .int .i64 nextBit] = av (⟨me, (nowC clock + 1), true, [], [], fingers, store, [], [], results, rid, jobID, nextBit⟩ : NodeV) := rfl
  have hz : ∀ d e s, e 34 = .int .i64 0 → e 33 = .int .i64 0 → loopN (evC (callN T d 63) rounds m63l0) rounds e s = some (.exit 0, upd e 35 (.bool false), ⟨s.next + 1, s.boxes, s.iters, s.gens⟩) := fun d e s h1 h2 => loop_zero h1 h2 (by omega)
  have h13 : ∀ g, srcOf g 13 (lst ([] : List OutV)) = some [] := fun g => src_lst g 13 [] rfl
  simp only [now] at hno
  cases hc : ((nowC clock + 1).tmod 4 == 0) with
  | true =>
    have hc' : (nowC clock + 1).tmod 4 = 0 := by simpa using hc
    simp (disch := first | omega | decide | simp only [go_sem, ↓reduceIte, Nat.add_assoc, Nat.add_left_cancel_iff, Nat.add_eq_left, Nat.left_eq_add, Nat.reduceEqDiff, Nat.reduceLeDiff, Nat.reduceAdd, Nat.reduceSub, Int.reduceLT, Int.reduceLE, Int.reduceGT, Int.reduceGE, Int.reduceEq, Int.reduceBEq, Int.reduceBNe, Int.reduceAdd, Int.reduceSub, Int.reduceNeg, Int.reduceToNat, beq_self_eq_true, bne_self_eq_false, Nat.add_zero, reduceCtorEq]) only [m63, m158, go_sem, ↓reduceIte, Nat.add_assoc, Nat.add_left_cancel_iff, Nat.add_eq_left, Nat.left_eq_add, Nat.reduceEqDiff, Nat.reduceLeDiff, Nat.reduceAdd, Nat.reduceSub, Int.reduceLT, Int.reduceLE, Int.reduceGT, Int.reduceGE, Int.reduceEq, Int.reduceBEq, Int.reduceBNe, Int.reduceAdd, Int.reduceSub, Int.reduceNeg, Int.reduceToNat, beq_self_eq_true, bne_self_eq_false, Nat.add_zero, reduceCtorEq, cells_node, hav, hav1, hcp, hno, hla, hjl, hbe, k158, hz, h13, wrap_small, hc]
    exact ⟨_, _, rfl, by (repeat (first | exact Keeps.base | (refine Keeps.copy rfl hN hs ?_ ?_ ?_) | exact Keeps.same (by assumption) _ | apply Keeps.box1 (n := 0) | apply Keeps.gen1 (n := 0) | omega)), by simp only [froz_tup, froz_agg, frozs_cons, frozs_nil, froz_int, froz_bool, froz_str, froz_nil, froz_lst, froz_fam_eq, frozs_map, frozs_app, Option.map_some, Nat.le_add_right, Bool.and_self, go_sem, ↓reduceIte, Nat.add_assoc, Nat.add_left_cancel_iff, Nat.add_eq_left, Nat.left_eq_add, Nat.reduceEqDiff, Nat.reduceLeDiff, Nat.reduceAdd, Nat.reduceSub, Int.reduceLT, Int.reduceLE, Int.reduceGT, Int.reduceGE, Int.reduceEq, Int.reduceBEq, Int.reduceBNe, Int.reduceAdd, Int.reduceSub, Int.reduceNeg, Int.reduceToNat, beq_self_eq_true, bne_self_eq_false, Nat.add_zero, reduceCtorEq, av_node, tickA, now, hc']; rfl, nofun⟩
  | false =>
    have hc' : ¬ (nowC clock + 1).tmod 4 = 0 := by simpa using hc
    simp (disch := first | omega | decide | simp only [go_sem, ↓reduceIte, Nat.add_assoc, Nat.add_left_cancel_iff, Nat.add_eq_left, Nat.left_eq_add, Nat.reduceEqDiff, Nat.reduceLeDiff, Nat.reduceAdd, Nat.reduceSub, Int.reduceLT, Int.reduceLE, Int.reduceGT, Int.reduceGE, Int.reduceEq, Int.reduceBEq, Int.reduceBNe, Int.reduceAdd, Int.reduceSub, Int.reduceNeg, Int.reduceToNat, beq_self_eq_true, bne_self_eq_false, Nat.add_zero, reduceCtorEq]) only [m63, m158, go_sem, ↓reduceIte, Nat.add_assoc, Nat.add_left_cancel_iff, Nat.add_eq_left, Nat.left_eq_add, Nat.reduceEqDiff, Nat.reduceLeDiff, Nat.reduceAdd, Nat.reduceSub, Int.reduceLT, Int.reduceLE, Int.reduceGT, Int.reduceGE, Int.reduceEq, Int.reduceBEq, Int.reduceBNe, Int.reduceAdd, Int.reduceSub, Int.reduceNeg, Int.reduceToNat, beq_self_eq_true, bne_self_eq_false, Nat.add_zero, reduceCtorEq, cells_node, hav, hav1, hcp, hno, hla, hjl, hbe, k158, hz, h13, wrap_small, hc]
    exact ⟨_, _, rfl, by (repeat (first | exact Keeps.base | (refine Keeps.copy rfl hN hs ?_ ?_ ?_) | exact Keeps.same (by assumption) _ | apply Keeps.box1 (n := 0) | apply Keeps.gen1 (n := 0) | omega)), by simp only [froz_tup, froz_agg, frozs_cons, frozs_nil, froz_int, froz_bool, froz_str, froz_nil, froz_lst, froz_fam_eq, frozs_map, frozs_app, Option.map_some, Nat.le_add_right, Bool.and_self, go_sem, ↓reduceIte, Nat.add_assoc, Nat.add_left_cancel_iff, Nat.add_eq_left, Nat.left_eq_add, Nat.reduceEqDiff, Nat.reduceLeDiff, Nat.reduceAdd, Nat.reduceSub, Int.reduceLT, Int.reduceLE, Int.reduceGT, Int.reduceGE, Int.reduceEq, Int.reduceBEq, Int.reduceBNe, Int.reduceAdd, Int.reduceSub, Int.reduceNeg, Int.reduceToNat, beq_self_eq_true, bne_self_eq_false, Nat.add_zero, reduceCtorEq, froz_av, tickA, now, hc']; rfl, nofun⟩

end Go.Ev.Nd
