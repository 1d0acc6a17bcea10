/- The functions of pend, jobs, peers: what each tells. -/
import Derived.Test.YtlidbfnamhgnlaaGreatDoorNdT
namespace Go.Ev.Nd
open Go Go.Ev
open Go.Ev.Enc (av)

/-- A clock, as one can reckon with it. -/
def nowC (clock : Int) : Int := if clock < 0 ∨ clock > 1099511627776 then 0 else clock
def now (n : NodeV) : Int := nowC n.clock

theorem av_peer (p : PeerV) : av p = .agg [.int .u64 p.id, .int .u16 p.addr] := rfl
theorem av_entry (x : EntryV) : av x = .agg [.int .u64 x.peer.id, .int .u16 x.peer.addr, .int .i64 x.misses] := rfl
theorem av_finger (x : FingerV) : av x = .agg [.int .i64 x.bit, .int .u64 x.peer.id, .int .u16 x.peer.addr] := rfl
theorem av_pair (x : PairV) : av x = .agg [.str x.key, .str x.val] := rfl
theorem av_pend (x : PendV) : av x = .agg [.int .u32 x.rid, .int .i64 x.kind, .int .i64 x.why, .int .i64 x.job, .int .u64 x.to.id, .int .u16 x.to.addr, .int .i64 x.due] := rfl
theorem av_job (x : JobV) : av x = .agg [.int .i64 x.id, .int .i64 x.kind, .int .i64 x.bit, .str x.key, .str x.val, .int .u64 x.target, .int .u64 x.via.id, .int .u16 x.via.addr, .int .u64 x.at_.id, .int .u16 x.at_.addr, .bool x.doing, .int .i64 x.hops, .int .i64 x.tries, .int .i64 x.due] := rfl
theorem av_res (x : ResV) : av x = .agg [.int .i64 x.job, .int .i64 x.kind, .str x.key, .str x.val, .bool x.has, .int .i64 x.err] := rfl
theorem av_node (n : NodeV) : av n = .agg [.int .u64 n.me.id, .int .u16 n.me.addr, .int .i64 n.clock, .bool n.joined, lst n.pred, lst n.list, lst n.fingers, lst n.store, lst n.pends, lst n.jobs, lst n.results, .int .u32 n.rid, .int .i64 n.jobID, .int .i64 n.nextBit] := rfl

theorem cells_node (n : NodeV) : (av n).cells = [.int .u64 n.me.id, .int .u16 n.me.addr, .int .i64 n.clock, .bool n.joined, lst n.pred, lst n.list, lst n.fingers, lst n.store, lst n.pends, lst n.jobs, lst n.results, .int .u32 n.rid, .int .i64 n.jobID, .int .i64 n.nextBit] := rfl

theorem now_tells (n : NodeV) : Tells T 0 156 true [av n] (.int .i64 (now n)) := by
  refine ⟨m156, TF F156, fun d st _ => ?_⟩
  by_cases h1 : n.clock < 0
  · simp only [m156, av_node, go_sem, ↓reduceIte, Nat.add_assoc, Nat.add_left_cancel_iff, Nat.add_eq_left, Nat.left_eq_add, Nat.reduceEqDiff, Nat.reduceLeDiff, Nat.reduceAdd, Nat.reduceSub, Int.reduceLT, Int.reduceLE, Int.reduceGT, Int.reduceGE, Int.reduceEq, Int.reduceBEq, Int.reduceBNe, Int.reduceAdd, Int.reduceSub, Int.reduceNeg, Int.reduceToNat, beq_self_eq_true, bne_self_eq_false, Nat.add_zero, reduceCtorEq, h1, now]
    skip
    exact ⟨_, _, rfl, by (repeat (first | exact Keeps.base | (refine Keeps.copy rfl hN hs ?_ ?_ ?_) | exact Keeps.same (by assumption) _ | apply Keeps.box1 (n := 0) | apply Keeps.gen1 (n := 0) | omega)), by simp [froz, now, nowC, h1], fun _ => rfl⟩
  · by_cases h2 : n.clock > 1099511627776
    · simp only [m156, av_node, go_sem, ↓reduceIte, Nat.add_assoc, Nat.add_left_cancel_iff, Nat.add_eq_left, Nat.left_eq_add, Nat.reduceEqDiff, Nat.reduceLeDiff, Nat.reduceAdd, Nat.reduceSub, Int.reduceLT, Int.reduceLE, Int.reduceGT, Int.reduceGE, Int.reduceEq, Int.reduceBEq, Int.reduceBNe, Int.reduceAdd, Int.reduceSub, Int.reduceNeg, Int.reduceToNat, beq_self_eq_true, bne_self_eq_false, Nat.add_zero, reduceCtorEq, h1, h2]
      skip
      exact ⟨_, _, rfl, by (repeat (first | exact Keeps.base | (refine Keeps.copy rfl hN hs ?_ ?_ ?_) | exact Keeps.same (by assumption) _ | apply Keeps.box1 (n := 0) | apply Keeps.gen1 (n := 0) | omega)), by simp [froz, now, nowC, h1, h2], fun _ => rfl⟩
    · simp only [m156, av_node, go_sem, ↓reduceIte, Nat.add_assoc, Nat.add_left_cancel_iff, Nat.add_eq_left, Nat.left_eq_add, Nat.reduceEqDiff, Nat.reduceLeDiff, Nat.reduceAdd, Nat.reduceSub, Int.reduceLT, Int.reduceLE, Int.reduceGT, Int.reduceGE, Int.reduceEq, Int.reduceBEq, Int.reduceBNe, Int.reduceAdd, Int.reduceSub, Int.reduceNeg, Int.reduceToNat, beq_self_eq_true, bne_self_eq_false, Nat.add_zero, reduceCtorEq, h1, h2]
      exact ⟨_, _, rfl, by (repeat (first | exact Keeps.base | (refine Keeps.copy rfl hN hs ?_ ?_ ?_) | exact Keeps.same (by assumption) _ | apply Keeps.box1 (n := 0) | apply Keeps.gen1 (n := 0) | omega)), by simp [froz, now, nowC, h1, h2], fun _ => rfl⟩

theorem clone69 {d c : Nat} {st : St} {v : AV} {xs : List EntryV} (h : Rd st v xs) (hl : xs.length ≤ 1000000000) (n : Nat) (b : Nat → Option (List AV)) (i : Nat → Option (ByteArray × Nat)) (hn : st.next ≤ n) :
    callN T (d + 1) c 69 [v] ⟨n, b, i, st.gens⟩ = some (.sl (.fam n (st.gens n) 0) 3 (xs.map av), ⟨n + 1, b, i, st.gens⟩) :=
  (callN_prim rfl _ _).trans (clonePrim_eq (h.any hn b i) rfl hl)
theorem clone70 {d c : Nat} {st : St} {v : AV} {xs : List FingerV} (h : Rd st v xs) (hl : xs.length ≤ 1000000000) (n : Nat) (b : Nat → Option (List AV)) (i : Nat → Option (ByteArray × Nat)) (hn : st.next ≤ n) :
    callN T (d + 1) c 70 [v] ⟨n, b, i, st.gens⟩ = some (.sl (.fam n (st.gens n) 0) 3 (xs.map av), ⟨n + 1, b, i, st.gens⟩) :=
  (callN_prim rfl _ _).trans (clonePrim_eq (h.any hn b i) rfl hl)
theorem clone71 {d c : Nat} {st : St} {v : AV} {xs : List PairV} (h : Rd st v xs) (hl : xs.length ≤ 1000000000) (n : Nat) (b : Nat → Option (List AV)) (i : Nat → Option (ByteArray × Nat)) (hn : st.next ≤ n) :
    callN T (d + 1) c 71 [v] ⟨n, b, i, st.gens⟩ = some (.sl (.fam n (st.gens n) 0) 2 (xs.map av), ⟨n + 1, b, i, st.gens⟩) :=
  (callN_prim rfl _ _).trans (clonePrim_eq (h.any hn b i) rfl hl)
theorem clone72 {d c : Nat} {st : St} {v : AV} {xs : List PendV} (h : Rd st v xs) (hl : xs.length ≤ 1000000000) (n : Nat) (b : Nat → Option (List AV)) (i : Nat → Option (ByteArray × Nat)) (hn : st.next ≤ n) :
    callN T (d + 1) c 72 [v] ⟨n, b, i, st.gens⟩ = some (.sl (.fam n (st.gens n) 0) 7 (xs.map av), ⟨n + 1, b, i, st.gens⟩) :=
  (callN_prim rfl _ _).trans (clonePrim_eq (h.any hn b i) rfl hl)
theorem clone73 {d c : Nat} {st : St} {v : AV} {xs : List JobV} (h : Rd st v xs) (hl : xs.length ≤ 1000000000) (n : Nat) (b : Nat → Option (List AV)) (i : Nat → Option (ByteArray × Nat)) (hn : st.next ≤ n) :
    callN T (d + 1) c 73 [v] ⟨n, b, i, st.gens⟩ = some (.sl (.fam n (st.gens n) 0) 14 (xs.map av), ⟨n + 1, b, i, st.gens⟩) :=
  (callN_prim rfl _ _).trans (clonePrim_eq (h.any hn b i) rfl hl)
theorem clone74 {d c : Nat} {st : St} {v : AV} {xs : List ResV} (h : Rd st v xs) (hl : xs.length ≤ 1000000000) (n : Nat) (b : Nat → Option (List AV)) (i : Nat → Option (ByteArray × Nat)) (hn : st.next ≤ n) :
    callN T (d + 1) c 74 [v] ⟨n, b, i, st.gens⟩ = some (.sl (.fam n (st.gens n) 0) 6 (xs.map av), ⟨n + 1, b, i, st.gens⟩) :=
  (callN_prim rfl _ _).trans (clonePrim_eq (h.any hn b i) rfl hl)

/-- No list of a node's is greater than can be. -/
structure Small (n : NodeV) : Prop where
  pred : n.pred.length ≤ 1000000000
  list : n.list.length ≤ 1000000000
  fingers : n.fingers.length ≤ 1000000000
  store : n.store.length ≤ 1000000000
  pends : n.pends.length ≤ 1000000000
  jobs : n.jobs.length ≤ 1000000000
  results : n.results.length ≤ 1000000000

/-- A node whose lists may be read. -/
structure NRd (st : St) (n : NodeV) (p l f s w j r : AV) : Prop where
  pred : Rd st p n.pred
  list : Rd st l n.list
  fingers : Rd st f n.fingers
  store : Rd st s n.store
  pends : Rd st w n.pends
  jobs : Rd st j n.jobs
  results : Rd st r n.results

theorem NRd.lst (st : St) (n : NodeV) : NRd st n (lst n.pred) (lst n.list) (lst n.fingers) (lst n.store) (lst n.pends) (lst n.jobs) (lst n.results) :=
  ⟨Rd.lst _ _, Rd.lst _ _, Rd.lst _ _, Rd.lst _ _, Rd.lst _ _, Rd.lst _ _, Rd.lst _ _⟩

theorem NRd.mono {st st' : St} {n : NodeV} {p l f s w j r : AV} (h : NRd st n p l f s w j r) (hn : st.next ≤ st'.next) (hk : Keeps st st') : NRd st' n p l f s w j r :=
  ⟨h.pred.mono hn hk, h.list.mono hn hk, h.fingers.mono hn hk, h.store.mono hn hk, h.pends.mono hn hk, h.jobs.mono hn hk, h.results.mono hn hk⟩

/-- A node's cells, its lists as they lie. -/
def nodeAV (n : NodeV) (p l f s w j r : AV) : AV := .agg [.int .u64 n.me.id, .int .u16 n.me.addr, .int .i64 n.clock, .bool n.joined, p, l, f, s, w, j, r, .int .u32 n.rid, .int .i64 n.jobID, .int .i64 n.nextBit]

theorem freshs_of {α : Type} [Enc α] (hf : ∀ x : α, fresh (av x) = true) (xs : List α) : freshs (xs.map av) = true := by
  induction xs with
  | nil => rfl
  | cons x xs ih => simp [freshs, hf, ih]

class Flat (α : Type) [Enc α] : Prop where
  fl : ∀ x : α, fresh (av x) = true

instance : Flat PeerV := ⟨fun _ => rfl⟩
instance : Flat EntryV := ⟨fun _ => rfl⟩
instance : Flat FingerV := ⟨fun _ => rfl⟩
instance : Flat PairV := ⟨fun _ => rfl⟩
instance : Flat PendV := ⟨fun _ => rfl⟩
instance : Flat JobV := ⟨fun _ => rfl⟩
instance : Flat ResV := ⟨fun _ => rfl⟩

theorem froz_fam_eq (n : Nat) (g : Nat → Nat) (τ g0 o s : Nat) (xs : List AV) : froz n g (.sl (.fam τ g0 o) s xs) = if (g τ == g0 && decide (n ≤ τ)) = true then (match frozs n g xs with | some ys => some (L s ys) | none => none) else none := by
  simp only [froz]; cases frozs n g xs <;> rfl
theorem frozs_app {α : Type} [Enc α] (n : Nat) (g : Nat → Nat) (xs : List α) (ys : List AV) : frozs n g (xs.map av ++ ys) = match frozs n g ys with | some zs => some (xs.map av ++ zs) | none => none := by
  induction xs with
  | nil => simp only [List.map_nil, List.nil_append]; cases frozs n g ys <;> rfl
  | cons x xs ih => simp only [List.map_cons, List.cons_append, frozs, Enc.ro, ih]; cases frozs n g ys <;> rfl
theorem freshs_app (xs ys : List AV) : freshs (xs ++ ys) = (freshs xs && freshs ys) := by
  induction xs with
  | nil => simp [freshs]
  | cons x xs ih => simp [freshs, ih, Bool.and_assoc]

theorem fresh_map {α : Type} [Enc α] [Flat α] (xs : List α) : freshs (xs.map av) = true := freshs_of Flat.fl xs

/-- A node's lists, each in memory of its own. -/
def own (s : Nat → Nat) (k sz : Nat) (xs : List AV) : AV := .sl (.fam k (s k) 0) sz xs

theorem copy_eval {d : Nat} {st : St} {n : NodeV} {p l f s w j r : AV} (h : NRd st n p l f s w j r) (hs : Small n) :
    ∃ b, evFn (callN T (d + 1) 20) rounds m20 [nodeAV n p l f s w j r] st =
      some (nodeAV n (own st.gens (st.next + 17) 3 (n.pred.map av)) (own st.gens (st.next + 18) 3 (n.list.map av)) (own st.gens (st.next + 19) 3 (n.fingers.map av)) (own st.gens (st.next + 30) 2 (n.store.map av)) (own st.gens (st.next + 31) 7 (n.pends.map av))
        (own st.gens (st.next + 42) 14 (n.jobs.map av)) (own st.gens (st.next + 43) 6 (n.results.map av)), ⟨st.next + 46, b, st.iters, st.gens⟩) ∧ ∀ k, k < st.next → b k = st.boxes k := by
  simp (disch := omega) only [m20, nodeAV, go_sem, ↓reduceIte, Nat.add_assoc, Nat.add_left_cancel_iff, Nat.add_eq_left, Nat.left_eq_add, Nat.reduceEqDiff, Nat.reduceLeDiff, Nat.reduceAdd, Nat.reduceSub, Int.reduceLT, Int.reduceLE, Int.reduceGT, Int.reduceGE, Int.reduceEq, Int.reduceBEq, Int.reduceBNe, Int.reduceAdd, Int.reduceSub, Int.reduceNeg, Int.reduceToNat, beq_self_eq_true, bne_self_eq_false, Nat.add_zero, reduceCtorEq, clone69 h.pred hs.pred, clone69 h.list hs.list, clone70 h.fingers hs.fingers, clone71 h.store hs.store, clone72 h.pends hs.pends, clone73 h.jobs hs.jobs, clone74 h.results hs.results, h.pred.cells, h.list.cells, h.fingers.cells, h.store.cells, h.pends.cells, h.jobs.cells, h.results.cells, h.pred.scalar, h.list.scalar, h.fingers.scalar, h.store.scalar, h.pends.scalar, h.jobs.scalar, h.results.scalar, own]
  refine ⟨_, rfl, fun k hk => ?_⟩
  simp only [upd]
  repeat rw [if_neg (by omega)]

/-- What a copy leaves behind. -/
noncomputable def copyB (d c : Nat) (st : St) (a : AV) : Nat → Option (List AV) := match callN T (d + 2) c 20 [a] st with
  | some r => r.2.boxes
  | none => fun _ => none

/-- A copy of a node, to be written to. -/
theorem copy_keep {d c : Nat} (hm : mode c 20 = .keep) {st : St} {n : NodeV} {p l f s w j r : AV} (h : NRd st n p l f s w j r) (hs : Small n) :
    ∃ b, callN T (d + 2) c 20 [nodeAV n p l f s w j r] st =
      some (nodeAV n (own st.gens (st.next + 17) 3 (n.pred.map av)) (own st.gens (st.next + 18) 3 (n.list.map av)) (own st.gens (st.next + 19) 3 (n.fingers.map av)) (own st.gens (st.next + 30) 2 (n.store.map av)) (own st.gens (st.next + 31) 7 (n.pends.map av))
        (own st.gens (st.next + 42) 14 (n.jobs.map av)) (own st.gens (st.next + 43) 6 (n.results.map av)), ⟨st.next + 46, b, st.iters, st.gens⟩) ∧ ∀ k, k < st.next → b k = st.boxes k := by
  rw [callN_keep hm (TF F20)]
  exact copy_eval h hs

theorem NRd.any {st : St} {n : NodeV} {p l f s w j r : AV} (h : NRd st n p l f s w j r) {m : Nat} (hn : st.next ≤ m) (b : Nat → Option (List AV)) (i : Nat → Option (ByteArray × Nat)) : NRd ⟨m, b, i, st.gens⟩ n p l f s w j r :=
  ⟨h.pred.any hn b i, h.list.any hn b i, h.fingers.any hn b i, h.store.any hn b i, h.pends.any hn b i, h.jobs.any hn b i, h.results.any hn b i⟩

theorem copy_eq {d c : Nat} (hm : mode c 20 = .keep) {st : St} {n : NodeV} {p l f s w j r : AV} (h : NRd st n p l f s w j r) (hs : Small n) (m : Nat) (b : Nat → Option (List AV)) (i : Nat → Option (ByteArray × Nat)) (hn : st.next ≤ m) :
    callN T (d + 2) c 20 [.agg [.int .u64 n.me.id, .int .u16 n.me.addr, .int .i64 n.clock, .bool n.joined, p, l, f, s, w, j, r, .int .u32 n.rid, .int .i64 n.jobID, .int .i64 n.nextBit]] ⟨m, b, i, st.gens⟩ =
      some (.agg [.int .u64 n.me.id, .int .u16 n.me.addr, .int .i64 n.clock, .bool n.joined, .sl (.fam (m + 17) (st.gens (m + 17)) 0) 3 (n.pred.map av), .sl (.fam (m + 18) (st.gens (m + 18)) 0) 3 (n.list.map av), .sl (.fam (m + 19) (st.gens (m + 19)) 0) 3 (n.fingers.map av),
        .sl (.fam (m + 30) (st.gens (m + 30)) 0) 2 (n.store.map av), .sl (.fam (m + 31) (st.gens (m + 31)) 0) 7 (n.pends.map av), .sl (.fam (m + 42) (st.gens (m + 42)) 0) 14 (n.jobs.map av), .sl (.fam (m + 43) (st.gens (m + 43)) 0) 6 (n.results.map av),
        .int .u32 n.rid, .int .i64 n.jobID, .int .i64 n.nextBit],
        ⟨m + 46, copyB d c ⟨m, b, i, st.gens⟩ (.agg [.int .u64 n.me.id, .int .u16 n.me.addr, .int .i64 n.clock, .bool n.joined, p, l, f, s, w, j, r, .int .u32 n.rid, .int .i64 n.jobID, .int .i64 n.nextBit]), i, st.gens⟩) := by
  obtain ⟨b', h1, h2⟩ := copy_keep (d := d) hm (h.any hn b i) hs
  simp only [nodeAV, own] at h1
  simp only [copyB, h1]

theorem copyB_old {d c : Nat} (hm : mode c 20 = .keep) {st : St} {n : NodeV} {p l f s w j r : AV} (h : NRd st n p l f s w j r) (hs : Small n) (m : Nat) (b : Nat → Option (List AV)) (i : Nat → Option (ByteArray × Nat)) (k : Nat) (hn : st.next ≤ m) (hk : k < m) :
    copyB d c ⟨m, b, i, st.gens⟩ (.agg [.int .u64 n.me.id, .int .u16 n.me.addr, .int .i64 n.clock, .bool n.joined, p, l, f, s, w, j, r, .int .u32 n.rid, .int .i64 n.jobID, .int .i64 n.nextBit]) k = b k := by
  obtain ⟨b', h1, h2⟩ := copy_keep (d := d) hm (h.any hn b i) hs
  simp only [nodeAV, own] at h1
  simp only [copyB, h1]
  exact h2 k hk

theorem _root_.Go.Ev.Keeps.copy {d c : Nat} (hm : mode c 20 = .keep) {st0 st : St} {n : NodeV} {p l f s w j r : AV} (h : NRd st n p l f s w j r) (hs : Small n) {m m' : Nat} {b : Nat → Option (List AV)} {i : Nat → Option (ByteArray × Nat)} {g : Nat → Nat} (hk : Keeps st0 ⟨0, b, i, g⟩) (hn : st.next ≤ m) (hn0 : st0.next ≤ m) :
    Keeps st0 ⟨m', copyB d c ⟨m, b, i, st.gens⟩ (.agg [.int .u64 n.me.id, .int .u16 n.me.addr, .int .i64 n.clock, .bool n.joined, p, l, f, s, w, j, r, .int .u32 n.rid, .int .i64 n.jobID, .int .i64 n.nextBit]), i, g⟩ :=
  ⟨fun k hk' => (copyB_old hm h hs m b i k hn (by omega)).trans (hk.box k hk'), hk.iter, hk.gens⟩

attribute [irreducible] copyB

theorem _root_.Go.Ev.Rd.froz {α : Type} [Enc α] {st : St} {v : AV} {xs : List α} (h : Rd st v xs) : Ev.froz 0 st.gens v = some (lst xs) := by
  obtain ⟨c, s, rfl, h2, h3⟩ := h.ex
  rcases h3 with rfl | ⟨rfl, rfl⟩ | ⟨τ, g, o, rfl, h4, h5⟩
  · have := froz_lst 0 st.gens xs
    simp only [Ev.froz, frozs_map, Option.map_some, lst]
    rcases h2 with rfl | rfl <;> rfl
  · rfl
  · exact froz_fam _ _ _ _ _ _ _ h5 (Nat.zero_le _) h2

theorem NRd.fam (st : St) (n : NodeV) {m k1 k2 k3 k4 k5 k6 k7 : Nat} (b : Nat → Option (List AV)) (i : Nat → Option (ByteArray × Nat)) (h1 : k1 < m) (h2 : k2 < m) (h3 : k3 < m) (h4 : k4 < m) (h5 : k5 < m) (h6 : k6 < m) (h7 : k7 < m) :
    NRd ⟨m, b, i, st.gens⟩ n (.sl (.fam k1 (st.gens k1) 0) 3 (n.pred.map av)) (.sl (.fam k2 (st.gens k2) 0) 3 (n.list.map av)) (.sl (.fam k3 (st.gens k3) 0) 3 (n.fingers.map av)) (.sl (.fam k4 (st.gens k4) 0) 2 (n.store.map av)) (.sl (.fam k5 (st.gens k5) 0) 7 (n.pends.map av))
      (.sl (.fam k6 (st.gens k6) 0) 14 (n.jobs.map av)) (.sl (.fam k7 (st.gens k7) 0) 6 (n.results.map av)) :=
  ⟨⟨_, _, rfl, .inl rfl, .inr (.inr ⟨_, _, _, rfl, h1, rfl⟩)⟩, ⟨_, _, rfl, .inl rfl, .inr (.inr ⟨_, _, _, rfl, h2, rfl⟩)⟩, ⟨_, _, rfl, .inl rfl, .inr (.inr ⟨_, _, _, rfl, h3, rfl⟩)⟩, ⟨_, _, rfl, .inl rfl, .inr (.inr ⟨_, _, _, rfl, h4, rfl⟩)⟩,
   ⟨_, _, rfl, .inl rfl, .inr (.inr ⟨_, _, _, rfl, h5, rfl⟩)⟩, ⟨_, _, rfl, .inl rfl, .inr (.inr ⟨_, _, _, rfl, h6, rfl⟩)⟩, ⟨_, _, rfl, .inl rfl, .inr (.inr ⟨_, _, _, rfl, h7, rfl⟩)⟩⟩

theorem NRd.froz {st : St} {n : NodeV} {p l f s w j r : AV} (h : NRd st n p l f s w j r) (id addr clock rid jid nb : Int) (jd : Bool) :
    Ev.froz 0 st.gens (.agg [.int .u64 id, .int .u16 addr, .int .i64 clock, .bool jd, p, l, f, s, w, j, r, .int .u32 rid, .int .i64 jid, .int .i64 nb]) = some (av (⟨⟨id, addr⟩, clock, jd, n.pred, n.list, n.fingers, n.store, n.pends, n.jobs, n.results, rid, jid, nb⟩ : NodeV)) := by
  simp only [Ev.froz, frozs, h.pred.froz, h.list.froz, h.fingers.froz, h.store.froz, h.pends.froz, h.jobs.froz, h.results.froz, Option.map_some, av_node]

theorem now_eq {d c : Nat} {st : St} {n : NodeV} {p l f s w j r : AV} (h : NRd st n p l f s w j r) (id addr clock rid jid nb : Int) (jd : Bool) (m : Nat) (b : Nat → Option (List AV)) (i : Nat → Option (ByteArray × Nat)) :
    callN T (d + 1) c 156 [.agg [.int .u64 id, .int .u16 addr, .int .i64 clock, .bool jd, p, l, f, s, w, j, r, .int .u32 rid, .int .i64 jid, .int .i64 nb]] ⟨m, b, i, st.gens⟩ = some (.int .i64 (nowC clock), ⟨m, b, i, st.gens⟩) :=
  (now_tells (⟨⟨id, addr⟩, clock, jd, n.pred, n.list, n.fingers, n.store, n.pends, n.jobs, n.results, rid, jid, nb⟩ : NodeV)).lent rfl (Nat.zero_le _) (by simp only [frozs, h.froz])

theorem froz_own {α : Type} [Enc α] (st : St) (g : Nat → Nat) (k : Nat) (xs : List α) (hk : st.next ≤ k) (hg : g k = st.gens k) : froz st.next g (own st.gens k (Enc.sz α) (xs.map av)) = some (lst xs) :=
  froz_fam _ _ _ _ _ _ _ hg hk (.inl rfl)

theorem copy_tells (n : NodeV) (hs : Small n) : Tells T 1 20 true [av n] (av n) := by
  refine ⟨m20, TF F20, fun d st hd => ?_⟩
  obtain ⟨d, rfl⟩ : ∃ k, d = k + 1 := ⟨d - 1, by omega⟩
  obtain ⟨b, h1, h2⟩ := copy_eval (d := d) (NRd.lst st n) hs
  refine ⟨_, _, h1, Keeps.boxes h2, ?_, fun _ => ?_⟩
  · have h3 := froz_own st st.gens (st.next + 17) n.pred (by omega) rfl
    have h4 := froz_own st st.gens (st.next + 18) n.list (by omega) rfl
    have h5 := froz_own st st.gens (st.next + 19) n.fingers (by omega) rfl
    have h6 := froz_own st st.gens (st.next + 30) n.store (by omega) rfl
    have h7 := froz_own st st.gens (st.next + 31) n.pends (by omega) rfl
    have h8 := froz_own st st.gens (st.next + 42) n.jobs (by omega) rfl
    have h9 := froz_own st st.gens (st.next + 43) n.results (by omega) rfl
    simp only [Enc.sz] at h3 h4 h5 h6 h7 h8 h9
    simp only [nodeAV, froz, frozs, h3, h4, h5, h6, h7, h8, h9, Option.map_some, av_node]
  · simp only [nodeAV, own, fresh, freshs, fresh_map, Bool.and_self]

end Go.Ev.Nd
