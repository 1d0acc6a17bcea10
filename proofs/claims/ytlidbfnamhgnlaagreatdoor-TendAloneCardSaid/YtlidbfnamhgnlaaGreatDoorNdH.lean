/- TendAlone: the law's own function. -/
import Derived.Test.YtlidbfnamhgnlaaGreatDoorNdG
import Derived.Test.YtlidbfnamhgnlaaGreatDoorNdMb
namespace Go.Ev.Nd
open Go Go.Ev
open Go.Ev.Enc (av)

theorem tickA_keeps (n : NodeV) (hs : Small n) (hn : Lone n) : Small (tickA n) ∧ Lone (tickA n) ∧ (tickA n).store = n.store := by
  unfold tickA
  split
  · exact ⟨⟨hs.pred, hs.list, Nat.le_trans (List.length_filter_le _ _) hs.fingers, hs.store, hs.pends, hs.jobs, hs.results⟩, ⟨hn.joined, hn.list, hn.pred, hn.pends, hn.jobs⟩, rfl⟩
  · exact ⟨⟨hs.pred, hs.list, hs.fingers, hs.store, hs.pends, hs.jobs, hs.results⟩, ⟨hn.joined, hn.list, hn.pred, hn.pends, hn.jobs⟩, rfl⟩

theorem small_of {n : NodeV} (h : largeN n = false) : n.fingers.length ≤ 80 ∧ n.store.length ≤ 100 ∧ n.results.length ≤ 40 ∧ ∀ x ∈ n.store, x.key.size ≤ 300 := by
  simp only [largeN, manyN, Bool.or_eq_false_iff, decide_eq_false_iff_not] at h
  obtain ⟨⟨_, _, h3, _, _, h6, h7, h8⟩, _⟩ := h
  refine ⟨by omega, by omega, by omega, fun x hx => ?_⟩
  have := List.any_eq_false.1 h8 x hx
  simp only [bigP, Bool.or_eq_true, decide_eq_true_eq, not_or] at this
  omega

/-- An empty list, as it may lie. -/
structure Emp (v : AV) : Prop where
  fr : ∀ n g, froz n g v = some (L 0 [])
  len : evLen false v = some (.int .i64 0)

/-- A lone node's cells. -/
def loneC (v : AV) (a : NodeV) : List AV := [.int .u64 a.me.id, .int .u16 a.me.addr, .int .i64 a.clock, .bool true, v, v, lst a.fingers, lst a.store, v, v, lst a.results, .int .u32 a.rid, .int .i64 a.jobID, .int .i64 a.nextBit]

theorem loneC_froz {v : AV} (hv : Emp v) {a : NodeV} (ha : Lone a) (n : Nat) (g : Nat → Nat) : froz n g (.agg (loneC v a)) = some (av a) := by
  simp only [loneC, froz, frozs, hv.fr, froz_lst, Option.map_some, av_node, ha.joined, ha.list, ha.pred, ha.pends, ha.jobs]; rfl

theorem loneC_of {a : NodeV} (ha : Lone a) : (av a).cells = loneC (L 0 []) a := by
  simp only [cells_node, loneC, ha.joined, ha.list, ha.pred, ha.pends, ha.jobs]; rfl

theorem alone_tells (n : NodeV) (t : Int) (h0 : 0 ≤ t) (h1 : t < 256) : Tells T 30 16 true [av n, .int .u8 t] (.bool true) := by
  refine ⟨m16, TF F16, fun d st hd => ?_⟩
  obtain ⟨d, rfl⟩ : ∃ k, d = k + 30 := ⟨d - 30, by omega⟩
  have h17 := fun s => (large30_tells n).call (T := T) (c := 16) rfl (d := d + 29) (by omega) (args := [av n]) (st := s) (by simp only [frozs_cons, froz_av, frozs_nil])
  have haw : ∀ s, callN T (d + 30) 16 62 [] s = some (.bool true, s) := fun s => (callN_prim (T := T) (d := d + 29) (c := 16) (f := 62) (p := ranTrue) rfl [] s)
  have hav : AV.agg [.int .u64 n.me.id, .int .u16 n.me.addr, .int .i64 n.clock, .bool n.joined, lst n.pred, lst n.list, lst n.fingers, lst n.store, lst n.pends, lst n.jobs, lst n.results, .int .u32 n.rid, .int .i64 n.jobID, .int .i64 n.nextBit] = av n := rfl
  cases hb : largeN n with
  | true =>
    simp (disch := first | omega | decide) only [m16, go_sem, ↓reduceIte, Nat.add_assoc, Nat.add_left_cancel_iff, Nat.add_eq_left, Nat.left_eq_add, Nat.reduceEqDiff, Nat.reduceLeDiff, Nat.reduceAdd, Nat.reduceSub, Int.reduceLT, Int.reduceLE, Int.reduceGT, Int.reduceGE, Int.reduceEq, Int.reduceBEq, Int.reduceBNe, Int.reduceAdd, Int.reduceSub, Int.reduceNeg, Int.reduceToNat, beq_self_eq_true, bne_self_eq_false, Nat.add_zero, reduceCtorEq, cells_node, hav, h17, haw, hb]
    exact ⟨_, _, rfl, by (repeat (first | exact Keeps.base | (refine Keeps.copy rfl hN hs ?_ ?_ ?_) | exact Keeps.same (by assumption) _ | apply Keeps.box1 (n := 0) | apply Keeps.gen1 (n := 0) | omega)), rfl, fun _ => rfl⟩
  | false =>
    obtain ⟨hf, hst, hr, hk⟩ := small_of hb
    let n0 : NodeV := { n with joined := true, list := [], pred := [], pends := [], jobs := [] }
    have hs0 : Small n0 := ⟨by simp [n0], by simp [n0], by simp only [n0]; omega, by simp only [n0]; omega, by simp [n0], by simp [n0], by simp only [n0]; omega⟩
    have hn0 : Lone n0 := ⟨rfl, rfl, rfl, rfl, rfl⟩
    have hwt : IntKind.wrap .i64 t = t := wrap_small h0 (by omega)
    simp (disch := first | omega | decide) only [m16, go_sem, ↓reduceIte, Nat.add_assoc, Nat.add_left_cancel_iff, Nat.add_eq_left, Nat.left_eq_add, Nat.reduceEqDiff, Nat.reduceLeDiff, Nat.reduceAdd, Nat.reduceSub, Int.reduceLT, Int.reduceLE, Int.reduceGT, Int.reduceGE, Int.reduceEq, Int.reduceBEq, Int.reduceBNe, Int.reduceAdd, Int.reduceSub, Int.reduceNeg, Int.reduceToNat, beq_self_eq_true, bne_self_eq_false, Nat.add_zero, reduceCtorEq, cells_node, hav, h17, hb]
    generalize hc : loopN _ rounds _ _ = r
    obtain ⟨x, e1, S, rfl, hkS, hx, v, a, hv, hbS, ha1, ha2, ha3, h2, h5, hb2, hnS⟩ := loop_cps hc t.toNat
      (fun i e z => e 1 = .int .u8 t ∧ e 5 = .ptr (st.next + 15) 0 ∧ e 2 = .ptr st.next 0 ∧ e 6 = .int .i64 (i : Nat) ∧ Keeps st z ∧ st.next + 17 < z.next ∧ (∃ b, z.boxes st.next = some b ∧ b[7]? = some (lst n.store)) ∧
        ∃ (v : AV) (a : NodeV), Emp v ∧ z.boxes (st.next + 15) = some (loneC v a) ∧ Small a ∧ Lone a ∧ a.store = n.store)
      (fun x e z => Keeps st z ∧ x = .exit 0 ∧ ∃ (v : AV) (a : NodeV), Emp v ∧ z.boxes (st.next + 15) = some (loneC v a) ∧ Small a ∧ Lone a ∧ a.store = n.store ∧ e 2 = .ptr st.next 0 ∧ e 5 = .ptr (st.next + 15) 0 ∧ (∃ b, z.boxes st.next = some b ∧ b[7]? = some (lst n.store)) ∧ st.next + 17 < z.next)
      (fun i e z hi ⟨he1, he5, he2, he6, hkz, hnz, hbz, v, a, hv, hba, hsa, hla, hsto⟩ => by
        simp only [loneC] at hba
        have hfz := fun (s : St) => loneC_froz hv hla s.next s.gens
        simp only [loneC] at hfz
        have h63 := fun s => (tickA_tells a hsa hla (by rw [hsto]; intro x hx; have := hk x hx; omega)).call (T := T) (c := 16) rfl (d := d + 29) (by omega) (args := [.agg [.int .u64 a.me.id, .int .u16 a.me.addr, .int .i64 a.clock, .bool true, v, v, lst a.fingers, lst a.store, v, v, lst a.results, .int .u32 a.rid, .int .i64 a.jobID, .int .i64 a.nextBit]]) (st := s) (by simp only [frozs_cons, hfz, frozs_nil])
        obtain ⟨h8, h9, h10⟩ := tickA_keeps a hsa hla
        by_cases hlt : i < t.toNat
        · left
          have hlt' : (i : Int) < t := by omega
          simp (disch := first | omega | decide) only [m16l0, go_sem, ↓reduceIte, Nat.add_assoc, Nat.add_left_cancel_iff, Nat.add_eq_left, Nat.left_eq_add, Nat.reduceEqDiff, Nat.reduceLeDiff, Nat.reduceAdd, Nat.reduceSub, Int.reduceLT, Int.reduceLE, Int.reduceGT, Int.reduceGE, Int.reduceEq, Int.reduceBEq, Int.reduceBNe, Int.reduceAdd, Int.reduceSub, Int.reduceNeg, Int.reduceToNat, beq_self_eq_true, bne_self_eq_false, Nat.add_zero, reduceCtorEq, he1, he5, he6, hwt, hlt', hba, cells_node, h63, wrap_small, List.length_nil]
          refine ⟨_, _, rfl, hlt, ?_, ?_, ?_, ?_, ?_, by simp only; omega, ?_, L 0 [], tickA a, ⟨fun _ _ => rfl, rfl⟩, ?_, h8, h9, h10.trans hsto⟩
          · simp only [go_sem, ↓reduceIte, Nat.add_assoc, Nat.add_left_cancel_iff, Nat.add_eq_left, Nat.left_eq_add, Nat.reduceEqDiff, Nat.reduceLeDiff, Nat.reduceAdd, Nat.reduceSub, Int.reduceLT, Int.reduceLE, Int.reduceGT, Int.reduceGE, Int.reduceEq, Int.reduceBEq, Int.reduceBNe, Int.reduceAdd, Int.reduceSub, Int.reduceNeg, Int.reduceToNat, beq_self_eq_true, bne_self_eq_false, Nat.add_zero, reduceCtorEq, he1]
          · simp only [go_sem, ↓reduceIte, Nat.add_assoc, Nat.add_left_cancel_iff, Nat.add_eq_left, Nat.left_eq_add, Nat.reduceEqDiff, Nat.reduceLeDiff, Nat.reduceAdd, Nat.reduceSub, Int.reduceLT, Int.reduceLE, Int.reduceGT, Int.reduceGE, Int.reduceEq, Int.reduceBEq, Int.reduceBNe, Int.reduceAdd, Int.reduceSub, Int.reduceNeg, Int.reduceToNat, beq_self_eq_true, bne_self_eq_false, Nat.add_zero, reduceCtorEq, he5]
          · simp only [go_sem, ↓reduceIte, Nat.add_assoc, Nat.add_left_cancel_iff, Nat.add_eq_left, Nat.left_eq_add, Nat.reduceEqDiff, Nat.reduceLeDiff, Nat.reduceAdd, Nat.reduceSub, Int.reduceLT, Int.reduceLE, Int.reduceGT, Int.reduceGE, Int.reduceEq, Int.reduceBEq, Int.reduceBNe, Int.reduceAdd, Int.reduceSub, Int.reduceNeg, Int.reduceToNat, beq_self_eq_true, bne_self_eq_false, Nat.add_zero, reduceCtorEq, he2]
          · simp only [go_sem, ↓reduceIte, Nat.add_assoc, Nat.add_left_cancel_iff, Nat.add_eq_left, Nat.left_eq_add, Nat.reduceEqDiff, Nat.reduceLeDiff, Nat.reduceAdd, Nat.reduceSub, Int.reduceLT, Int.reduceLE, Int.reduceGT, Int.reduceGE, Int.reduceEq, Int.reduceBEq, Int.reduceBNe, Int.reduceAdd, Int.reduceSub, Int.reduceNeg, Int.reduceToNat, beq_self_eq_true, bne_self_eq_false, Nat.add_zero, reduceCtorEq] <;> rfl
          · exact ⟨fun q hq => by simp only [upd]; rw [if_neg (by omega)]; exact hkz.box q hq, hkz.iter, hkz.gens⟩
          · obtain ⟨b, hb1, hb2⟩ := hbz
            exact ⟨b, by simp only [go_sem, ↓reduceIte, Nat.add_assoc, Nat.add_left_cancel_iff, Nat.add_eq_left, Nat.left_eq_add, Nat.reduceEqDiff, Nat.reduceLeDiff, Nat.reduceAdd, Nat.reduceSub, Int.reduceLT, Int.reduceLE, Int.reduceGT, Int.reduceGE, Int.reduceEq, Int.reduceBEq, Int.reduceBNe, Int.reduceAdd, Int.reduceSub, Int.reduceNeg, Int.reduceToNat, beq_self_eq_true, bne_self_eq_false, Nat.add_zero, reduceCtorEq, hb1], hb2⟩
          · rw [← loneC_of h9]; simp only [go_sem, ↓reduceIte, Nat.add_assoc, Nat.add_left_cancel_iff, Nat.add_eq_left, Nat.left_eq_add, Nat.reduceEqDiff, Nat.reduceLeDiff, Nat.reduceAdd, Nat.reduceSub, Int.reduceLT, Int.reduceLE, Int.reduceGT, Int.reduceGE, Int.reduceEq, Int.reduceBEq, Int.reduceBNe, Int.reduceAdd, Int.reduceSub, Int.reduceNeg, Int.reduceToNat, beq_self_eq_true, bne_self_eq_false, Nat.add_zero, reduceCtorEq, cells_node]
        · right
          have hlt' : ¬ (i : Int) < t := by omega
          refine ⟨.exit 0, ?_⟩
          simp (disch := first | omega | decide) only [m16l0, go_sem, ↓reduceIte, Nat.add_assoc, Nat.add_left_cancel_iff, Nat.add_eq_left, Nat.left_eq_add, Nat.reduceEqDiff, Nat.reduceLeDiff, Nat.reduceAdd, Nat.reduceSub, Int.reduceLT, Int.reduceLE, Int.reduceGT, Int.reduceGE, Int.reduceEq, Int.reduceBEq, Int.reduceBNe, Int.reduceAdd, Int.reduceSub, Int.reduceNeg, Int.reduceToNat, beq_self_eq_true, bne_self_eq_false, Nat.add_zero, reduceCtorEq, he1, he6, hwt, hlt']
          refine ⟨_, _, rfl, by simp, hkz.same _, v, a, hv, hba, hsa, hla, hsto, ?_, ?_, hbz, by simp only; omega⟩
          · simp only [go_sem, ↓reduceIte, Nat.add_assoc, Nat.add_left_cancel_iff, Nat.add_eq_left, Nat.left_eq_add, Nat.reduceEqDiff, Nat.reduceLeDiff, Nat.reduceAdd, Nat.reduceSub, Int.reduceLT, Int.reduceLE, Int.reduceGT, Int.reduceGE, Int.reduceEq, Int.reduceBEq, Int.reduceBNe, Int.reduceAdd, Int.reduceSub, Int.reduceNeg, Int.reduceToNat, beq_self_eq_true, bne_self_eq_false, Nat.add_zero, reduceCtorEq, he2]
          · simp only [go_sem, ↓reduceIte, Nat.add_assoc, Nat.add_left_cancel_iff, Nat.add_eq_left, Nat.left_eq_add, Nat.reduceEqDiff, Nat.reduceLeDiff, Nat.reduceAdd, Nat.reduceSub, Int.reduceLT, Int.reduceLE, Int.reduceGT, Int.reduceGE, Int.reduceEq, Int.reduceBEq, Int.reduceBNe, Int.reduceAdd, Int.reduceSub, Int.reduceNeg, Int.reduceToNat, beq_self_eq_true, bne_self_eq_false, Nat.add_zero, reduceCtorEq, he5]) 0 (Nat.zero_le _) (by unfold rounds; omega)
      ⟨by simp only [go_sem, ↓reduceIte, Nat.add_assoc, Nat.add_left_cancel_iff, Nat.add_eq_left, Nat.left_eq_add, Nat.reduceEqDiff, Nat.reduceLeDiff, Nat.reduceAdd, Nat.reduceSub, Int.reduceLT, Int.reduceLE, Int.reduceGT, Int.reduceGE, Int.reduceEq, Int.reduceBEq, Int.reduceBNe, Int.reduceAdd, Int.reduceSub, Int.reduceNeg, Int.reduceToNat, beq_self_eq_true, bne_self_eq_false, Nat.add_zero, reduceCtorEq], by simp only [go_sem, ↓reduceIte, Nat.add_assoc, Nat.add_left_cancel_iff, Nat.add_eq_left, Nat.left_eq_add, Nat.reduceEqDiff, Nat.reduceLeDiff, Nat.reduceAdd, Nat.reduceSub, Int.reduceLT, Int.reduceLE, Int.reduceGT, Int.reduceGE, Int.reduceEq, Int.reduceBEq, Int.reduceBNe, Int.reduceAdd, Int.reduceSub, Int.reduceNeg, Int.reduceToNat, beq_self_eq_true, bne_self_eq_false, Nat.add_zero, reduceCtorEq], by simp only [go_sem, ↓reduceIte, Nat.add_assoc, Nat.add_left_cancel_iff, Nat.add_eq_left, Nat.left_eq_add, Nat.reduceEqDiff, Nat.reduceLeDiff, Nat.reduceAdd, Nat.reduceSub, Int.reduceLT, Int.reduceLE, Int.reduceGT, Int.reduceGE, Int.reduceEq, Int.reduceBEq, Int.reduceBNe, Int.reduceAdd, Int.reduceSub, Int.reduceNeg, Int.reduceToNat, beq_self_eq_true, bne_self_eq_false, Nat.add_zero, reduceCtorEq], by simp only [go_sem, ↓reduceIte, Nat.add_assoc, Nat.add_left_cancel_iff, Nat.add_eq_left, Nat.left_eq_add, Nat.reduceEqDiff, Nat.reduceLeDiff, Nat.reduceAdd, Nat.reduceSub, Int.reduceLT, Int.reduceLE, Int.reduceGT, Int.reduceGE, Int.reduceEq, Int.reduceBEq, Int.reduceBNe, Int.reduceAdd, Int.reduceSub, Int.reduceNeg, Int.reduceToNat, beq_self_eq_true, bne_self_eq_false, Nat.add_zero, reduceCtorEq] <;> rfl, by (repeat (first | exact Keeps.base | (refine Keeps.copy rfl hN hs ?_ ?_ ?_) | exact Keeps.same (by assumption) _ | apply Keeps.box1 (n := 0) | apply Keeps.gen1 (n := 0) | omega)), by simp only; omega, ⟨_, by simp only [go_sem, ↓reduceIte, Nat.add_assoc, Nat.add_left_cancel_iff, Nat.add_eq_left, Nat.left_eq_add, Nat.reduceEqDiff, Nat.reduceLeDiff, Nat.reduceAdd, Nat.reduceSub, Int.reduceLT, Int.reduceLE, Int.reduceGT, Int.reduceGE, Int.reduceEq, Int.reduceBEq, Int.reduceBNe, Int.reduceAdd, Int.reduceSub, Int.reduceNeg, Int.reduceToNat, beq_self_eq_true, bne_self_eq_false, Nat.add_zero, reduceCtorEq] <;> rfl, rfl⟩, .sl .nil 0 [], n0, ⟨fun _ _ => rfl, rfl⟩, by simp only [go_sem, ↓reduceIte, Nat.add_assoc, Nat.add_left_cancel_iff, Nat.add_eq_left, Nat.left_eq_add, Nat.reduceEqDiff, Nat.reduceLeDiff, Nat.reduceAdd, Nat.reduceSub, Int.reduceLT, Int.reduceLE, Int.reduceGT, Int.reduceGE, Int.reduceEq, Int.reduceBEq, Int.reduceBNe, Int.reduceAdd, Int.reduceSub, Int.reduceNeg, Int.reduceToNat, beq_self_eq_true, bne_self_eq_false, Nat.add_zero, reduceCtorEq, loneC, n0], hs0, hn0, rfl⟩
    clear hc
    subst hx
    obtain ⟨b, hb1, hb3⟩ := hb2
    have hg7 : getR false b 7 1 = some (lst n.store) := hb3
    simp (disch := first | omega | decide) only [m16k0, go_sem, ↓reduceIte, Nat.add_assoc, Nat.add_left_cancel_iff, Nat.add_eq_left, Nat.left_eq_add, Nat.reduceEqDiff, Nat.reduceLeDiff, Nat.reduceAdd, Nat.reduceSub, Int.reduceLT, Int.reduceLE, Int.reduceGT, Int.reduceGE, Int.reduceEq, Int.reduceBEq, Int.reduceBNe, Int.reduceAdd, Int.reduceSub, Int.reduceNeg, Int.reduceToNat, beq_self_eq_true, bne_self_eq_false, Nat.add_zero, reduceCtorEq, h2, h5, hb1, hbS, loneC, hv.len, ha3, hg7, List.length_nil, haw]
    exact ⟨_, _, rfl, hkS.same _, rfl, fun _ => rfl⟩

end Go.Ev.Nd
