/- A node that is alone looks for a finger: what that comes to. -/
import Derived.Test.YtlidbfnamhgnlaaGreatDoorNdB
namespace Go.Ev.Nd
open Go Go.Ev
open Go.Ev.Enc (av)

theorem del_prim {d c τ g o k m : Nat} {b : Nat → Option (List AV)} {i : Nat → Option (ByteArray × Nat)} {gs : Nat → Nat} {xs : List JobV} (hg : gs τ = g) (hk : k < xs.length) (hl : xs.length ≤ 1000000000) :
    callN T (d + 1) c 272 [.sl (.fam τ g o) 14 (xs.map av), .int .i64 (k : Nat), .int .i64 ((k : Int) + 1)] ⟨m, b, i, gs⟩ = some (.sl (.fam m (gs m) 0) 14 ((xs.eraseIdx k).map av), ⟨m + 1, b, i, upd gs τ (g + 1)⟩) := by
  rw [callN_prim rfl]
  have h1 : ((k : Int) + 1).toNat = k + 1 := by omega
  have h2 : (decide ((0 : Int) ≤ k)) = true := by simp
  have h3 : (decide ((k : Int) < k + 1)) = true := by simp; omega
  have h4 : (decide (k + 1 ≤ (xs.map av).length)) = true := by simp; omega
  have h5 : (decide ((xs.map (av (α := JobV))).length ≤ 1000000000)) = true := by simp; omega
  simp only [deletePrim, hg, h1, h2, h3, h4, h5, decide_true, Bool.and_self, if_true, Int.toNat_natCast]
  rw [List.eraseIdx_eq_take_drop_succ, List.map_append, List.map_take, List.map_drop]

theorem settle_tells (n : NodeV) (hs : Small n) {k : Nat} {id : Int} (hk : indexF (fun x => x.id == id) n.jobs = (k : Nat)) (hkl : k < n.jobs.length) (h2 : n.jobs[k].kind ≠ 2) (h3 : n.jobs[k].kind ≠ 3) (has : Bool) (val : ByteArray) (e : Int) :
    Tells T 5 239 true [av n, .int .i64 id, .bool has, .str val, .int .i64 e] (av { n with jobs := n.jobs.eraseIdx k }) := by
  refine ⟨m239, TF F239, fun d st hd => ?_⟩
  obtain ⟨d, rfl⟩ : ∃ k, d = k + 5 := ⟨d - 5, by omega⟩
  have hN := NRd.lst st n
  have hO := NRd.fam st n (m := st.next + 51) (k1 := st.next + 22) (k2 := st.next + 23) (k3 := st.next + 24) (k4 := st.next + 35) (k5 := st.next + 36) (k6 := st.next + 47) (k7 := st.next + 48) st.boxes st.iters (by omega) (by omega) (by omega) (by omega) (by omega) (by omega) (by omega)
  have hlen : n.jobs.length < 1000000000000 := by have := hs.jobs; omega
  have hk0 : ¬ (k : Int) < 0 := by omega
  have hkl' : (k : Int) < n.jobs.length := by omega
  have k240 := fun (d : Nat) (args : List AV) (s : St) => callN_keep (T := T) (d := d) (c := 239) (f := 240) rfl (TF F240) args s
  have hj2 : (n.jobs[k].kind == 2) = false := by simp [h2]
  have hj3 : (n.jobs[k].kind == 3) = false := by simp [h3]
  have hlim := hs.jobs
  have hel := fun n bx it => elt_load hO.jobs (by decide) hkl n bx it 14 rfl
  simp (disch := first | omega | rfl) only [m239, m240, av_node, go_sem, ↓reduceIte, Nat.add_assoc, Nat.add_left_cancel_iff, Nat.add_eq_left, Nat.left_eq_add, Nat.reduceEqDiff, Nat.reduceLeDiff, Nat.reduceAdd, Nat.reduceSub, Int.reduceLT, Int.reduceLE, Int.reduceGT, Int.reduceGE, Int.reduceEq, Int.reduceBEq, Int.reduceBNe, Int.reduceAdd, Int.reduceSub, Int.reduceNeg, Int.reduceToNat, beq_self_eq_true, bne_self_eq_false, Nat.add_zero, reduceCtorEq, copy_eq (c := 239) rfl hN hs, copyB_old (c := 239) rfl hN hs, jfind_eq hO.jobs hlen, hk, hk0, hO.jobs.iadr (sz := 14) rfl (Int.natCast_nonneg k) hkl', Int.toNat_natCast, hel, cells_job, k240, wrap_small, del_prim, hj2, hj3, bne]
  exact ⟨_, _, rfl, by (repeat (first | exact Keeps.base | (refine Keeps.copy rfl hN hs ?_ ?_ ?_) | exact Keeps.same (by assumption) _ | apply Keeps.box1 (n := 0) | apply Keeps.gen1 (n := 0) | omega)), by simp (disch := omega) only [froz_tup, froz_agg, frozs_cons, frozs_nil, froz_int, froz_bool, froz_str, froz_nil, froz_lst, froz_fam_eq, frozs_map, frozs_app, Option.map_some, Nat.le_add_right, Bool.and_self, go_sem, ↓reduceIte, Nat.add_assoc, Nat.add_left_cancel_iff, Nat.add_eq_left, Nat.left_eq_add, Nat.reduceEqDiff, Nat.reduceLeDiff, Nat.reduceAdd, Nat.reduceSub, Int.reduceLT, Int.reduceLE, Int.reduceGT, Int.reduceGE, Int.reduceEq, Int.reduceBEq, Int.reduceBNe, Int.reduceAdd, Int.reduceSub, Int.reduceNeg, Int.reduceToNat, beq_self_eq_true, bne_self_eq_false, Nat.add_zero, reduceCtorEq]; rfl, fun _ => by simp only [fresh, freshs, fresh_map, freshs_app, Bool.and_self, List.isEmpty_nil, List.isEmpty_cons]⟩

/-! ### the fingers of a bit go -/

theorem clo269 {d c id1 wid : Nat} {bit : Int} (x : FingerV) {st : St} (h1 : st.boxes id1 = some [.ptr wid 0]) (h2 : evLoad st false 1 (.ptr wid 16) = some (.int .i64 bit)) (hid : id1 < st.next) (hwid : wid < st.next) :
    callN T (d + 1) c 269 [av x, .ptr id1 0] st = some (.bool (x.bit == bit), st) := by
  refine raw_of rfl (TF F269) ?_
  rw [load_ptr] at h2
  simp only [m269, av_finger, go_sem, ↓reduceIte, Nat.add_assoc, Nat.add_left_cancel_iff, Nat.add_eq_left, Nat.left_eq_add, Nat.reduceEqDiff, Nat.reduceLeDiff, Nat.reduceAdd, Nat.reduceSub, Int.reduceLT, Int.reduceLE, Int.reduceGT, Int.reduceGE, Int.reduceEq, Int.reduceBEq, Int.reduceBNe, Int.reduceAdd, Int.reduceSub, Int.reduceNeg, Int.reduceToNat, beq_self_eq_true, bne_self_eq_false, Nat.add_zero, reduceCtorEq, h1, h2, show ¬ id1 = st.next by omega, show ¬ wid = st.next by omega]
  exact ⟨_, _, rfl, by (repeat (first | exact Keeps.base | (refine Keeps.copy rfl hN hs ?_ ?_ ?_) | exact Keeps.same (by assumption) _ | apply Keeps.box1 (n := 0) | apply Keeps.gen1 (n := 0) | omega)), rfl⟩

theorem delF_ex {d c id1 wid τ g o m : Nat} {bit : Int} {b : Nat → Option (List AV)} {i : Nat → Option (ByteArray × Nat)} {gs : Nat → Nat} {xs : List FingerV} (hg : gs τ = g) (hτ : τ < m) (hl : xs.length < 1000000000000) (h1 : b id1 = some [.ptr wid 0]) (h2 : evLoad ⟨m, b, i, gs⟩ false 1 (.ptr wid 16) = some (.int .i64 bit)) (hid : id1 < m) (hwid : wid < m) :
    ∃ g' st1, callN T (d + 3) c 214 [.sl (.fam τ g o) 3 (xs.map av), .fn 269 [.ptr id1 0]] ⟨m, b, i, gs⟩ = some (.sl (.fam τ g' o) 3 ((xs.filter fun x => !(x.bit == bit)).map av), st1) ∧ m ≤ st1.next ∧ KeepsX ⟨m, b, i, gs⟩ τ st1 ∧ st1.gens τ = g' := by
  rw [callN_keep rfl (TF F214)]
  refine del_eval (α := FingerV) (st := ⟨m, b, i, gs⟩) (call := callN T (d + 2) 214) (k := 266) rfl (by decide) rfl hτ hg hl (fun n hn => ?_) (fun x _ st' h3 h4 => ?_)
  · refine idx_call (T := T) rfl (TF F266) rfl (by decide) (xs := xs) (v := .sl (.fam τ g o) 3 (xs.map av)) ⟨_, _, rfl, .inl rfl, .inr (.inr ⟨τ, g, o, rfl, by simp only at hn ⊢; omega, hg⟩)⟩ hl (fun x _ st' h3 h4 => ?_)
    simp only at hn h3
    refine clo269 x ((h4.box id1 (by simp only; omega)).trans h1) ?_ (by omega) (by omega)
    rw [load_ptr] at h2 ⊢
    rw [h4.box wid (by simp only; omega)]; exact h2
  · simp only at h3
    refine clo269 x ((h4.box id1 hid).trans h1) ?_ (by omega) (by omega)
    rw [load_ptr] at h2 ⊢
    rw [h4.box wid hwid]; exact h2

theorem delF_cps {d c id1 wid τ g o m : Nat} (bit : Int) {b : Nat → Option (List AV)} {i : Nat → Option (ByteArray × Nat)} {gs : Nat → Nat} {xs : List FingerV} {r : Option (AV × St)} (hc : callN T (d + 3) c 214 [.sl (.fam τ g o) 3 (xs.map av), .fn 269 [.ptr id1 0]] ⟨m, b, i, gs⟩ = r)
    (wid_ : wid = wid) (hg : gs τ = g) (hτ : τ < m) (hl : xs.length < 1000000000000) (h1 : b id1 = some [.ptr wid 0]) (h2 : evLoad ⟨m, b, i, gs⟩ false 1 (.ptr wid 16) = some (.int .i64 bit)) (hid : id1 < m) (hwid : wid < m) :
    ∃ g' st1, r = some (.sl (.fam τ g' o) 3 ((xs.filter fun x => !(x.bit == bit)).map av), st1) ∧ m ≤ st1.next ∧ KeepsX ⟨m, b, i, gs⟩ τ st1 ∧ st1.gens τ = g' := by
  subst hc
  exact delF_ex hg hτ hl h1 h2 hid hwid

theorem on_ex {d c : Nat} {st : St} (n : NodeV) (hs : Small n) {id : Int} {k : Nat} (hfind : indexF (fun x => x.id == id) n.jobs = (k : Nat)) (hkl : k < n.jobs.length) (h1 : ¬ n.jobs[k].kind < 1) (h4 : ¬ n.jobs[k].kind > 4) (m : Nat) (b : Nat → Option (List AV)) (i : Nat → Option (ByteArray × Nat)) (hm : st.next ≤ m) :
    ∃ b', callN T (d + 5) c 116 [av n, .int .i64 id] ⟨m, b, i, st.gens⟩ = some (.tup [.ptr (m + 6) 0, .bool true], ⟨m + 103, b', i, st.gens⟩) ∧ (∀ q, q < m → b' q = b q) ∧
      b' (m + 6) = some ([.int .u64 n.me.id, .int .u16 n.me.addr, .int .i64 n.clock, .bool n.joined, .sl (.fam (m + 25) (st.gens (m + 25)) 0) 3 (n.pred.map av), .sl (.fam (m + 26) (st.gens (m + 26)) 0) 3 (n.list.map av), .sl (.fam (m + 27) (st.gens (m + 27)) 0) 3 (n.fingers.map av),
        .sl (.fam (m + 38) (st.gens (m + 38)) 0) 2 (n.store.map av), .sl (.fam (m + 39) (st.gens (m + 39)) 0) 7 (n.pends.map av), .sl (.fam (m + 50) (st.gens (m + 50)) 0) 14 (n.jobs.map av), .sl (.fam (m + 51) (st.gens (m + 51)) 0) 6 (n.results.map av),
        .int .u32 n.rid, .int .i64 n.jobID, .int .i64 n.nextBit] ++ (av n.jobs[k]).cells ++ [.sl .nil 0 []]) := by
  rw [callN_keep rfl (TF F116)]
  have hN := NRd.lst st n
  have hO := NRd.fam st n (m := m + 54) (k1 := m + 25) (k2 := m + 26) (k3 := m + 27) (k4 := m + 38) (k5 := m + 39) (k6 := m + 50) (k7 := m + 51) st.boxes st.iters (by omega) (by omega) (by omega) (by omega) (by omega) (by omega) (by omega)
  have hlen : n.jobs.length < 1000000000000 := by have := hs.jobs; omega
  have hkl' : (k : Int) < n.jobs.length := by omega
  have hk0 : ¬ (k : Int) < 0 := by omega
  have hel := fun n' bx it => elt_load hO.jobs (by decide) hkl n' bx it 14 rfl
  simp (disch := first | omega | decide) only [m116, av_node, go_sem, ↓reduceIte, Nat.add_assoc, Nat.add_left_cancel_iff, Nat.add_eq_left, Nat.left_eq_add, Nat.reduceEqDiff, Nat.reduceLeDiff, Nat.reduceAdd, Nat.reduceSub, Int.reduceLT, Int.reduceLE, Int.reduceGT, Int.reduceGE, Int.reduceEq, Int.reduceBEq, Int.reduceBNe, Int.reduceAdd, Int.reduceSub, Int.reduceNeg, Int.reduceToNat, beq_self_eq_true, bne_self_eq_false, Nat.add_zero, reduceCtorEq, copy_eq (c := 116) rfl hN hs, copyB_old (c := 116) rfl hN hs, jfind_eq hO.jobs hlen, hfind, hk0, hO.jobs.iadr (sz := 14) rfl (Int.natCast_nonneg k) hkl', Int.toNat_natCast, hO.jobs.fadr, hO.jobs.load (List.getElem?_eq_getElem hkl), hel, cells_job, h1, h4]
  refine ⟨_, rfl, fun q hq => ?_, ?_⟩
  · simp (disch := omega) only [upd, copyB_old (c := 116) rfl hN hs]
    repeat rw [if_neg (by omega)]
  · simp only [go_sem, ↓reduceIte, Nat.add_assoc, Nat.add_left_cancel_iff, Nat.add_eq_left, Nat.left_eq_add, Nat.reduceEqDiff, Nat.reduceLeDiff, Nat.reduceAdd, Nat.reduceSub, Int.reduceLT, Int.reduceLE, Int.reduceGT, Int.reduceGE, Int.reduceEq, Int.reduceBEq, Int.reduceBNe, Int.reduceAdd, Int.reduceSub, Int.reduceNeg, Int.reduceToNat, beq_self_eq_true, bne_self_eq_false, Nat.add_zero, reduceCtorEq]

/-- A node's cells and a job's, and what is sent: a node at work. -/
def wCells (n : NodeV) (p l f s w jj r : AV) (j : JobV) (o : AV) : List AV :=
  [.int .u64 n.me.id, .int .u16 n.me.addr, .int .i64 n.clock, .bool n.joined, p, l, f, s, w, jj, r, .int .u32 n.rid, .int .i64 n.jobID, .int .i64 n.nextBit,
   .int .i64 j.id, .int .i64 j.kind, .int .i64 j.bit, .str j.key, .str j.val, .int .u64 j.target, .int .u64 j.via.id, .int .u16 j.via.addr, .int .u64 j.at_.id, .int .u16 j.at_.addr, .bool j.doing, .int .i64 j.hops, .int .i64 j.tries, .int .i64 j.due, o]

theorem set_cps {d c : Nat} {st : St} {n : NodeV} {p l f s w jj r : AV} (h : NRd st n p l f s w jj r) (hs : Small n) (j : JobV) {k : Nat} (hk : indexF (fun x => x.id == j.id) n.jobs = (k : Nat)) (hkl : k < n.jobs.length) {m : Nat} {b : Nat → Option (List AV)} {i : Nat → Option (ByteArray × Nat)} {r' : Option (AV × St)} (hm : st.next ≤ m)
    (hc : callN T (d + 4) c 263 [.agg [.int .u64 n.me.id, .int .u16 n.me.addr, .int .i64 n.clock, .bool n.joined, p, l, f, s, w, jj, r, .int .u32 n.rid, .int .i64 n.jobID, .int .i64 n.nextBit], av j] ⟨m, b, i, st.gens⟩ = r') :
    ∃ b', r' = some (.agg [.int .u64 n.me.id, .int .u16 n.me.addr, .int .i64 n.clock, .bool n.joined, .sl (.fam (m + 23) (st.gens (m + 23)) 0) 3 (n.pred.map av), .sl (.fam (m + 24) (st.gens (m + 24)) 0) 3 (n.list.map av), .sl (.fam (m + 25) (st.gens (m + 25)) 0) 3 (n.fingers.map av),
        .sl (.fam (m + 36) (st.gens (m + 36)) 0) 2 (n.store.map av), .sl (.fam (m + 37) (st.gens (m + 37)) 0) 7 (n.pends.map av), .sl (.fam (m + 48) (st.gens (m + 48) + 1) 0) 14 ((n.jobs.set k j).map av), .sl (.fam (m + 49) (st.gens (m + 49)) 0) 6 (n.results.map av),
        .int .u32 n.rid, .int .i64 n.jobID, .int .i64 n.nextBit], ⟨m + 68, b', i, upd st.gens (m + 48) (st.gens (m + 48) + 1)⟩) ∧ ∀ q, q < m → b' q = b q := by
  subst hc
  exact set_keep h hs j hk hkl m b i hm

theorem seek_body {d c wid : Nat} {st : St} (n : NodeV) (hs : Small n) (hl : n.list = []) (j : JobV) (hj : n.jobs = [j]) (hk : j.kind = 4) {p l f s w jj r : AV} (hN : NRd st n p l f s w jj r) (m : Nat) (b : Nat → Option (List AV)) (i : Nat → Option (ByteArray × Nat)) (hm : st.next ≤ m) (hw : wid < m)
    (hb : b wid = some (wCells n p l f s w jj r j (.sl .nil 0 []))) :
    ∃ S j', callN T (d + 16) c 144 [.ptr wid 0] ⟨m, b, i, st.gens⟩ = some (.tup [], S) ∧ S.boxes wid = some (wCells { n with fingers := n.fingers.filter (fun x => !(x.bit == j.bit)), jobs := [] } (lst n.pred) (lst n.list) (lst (n.fingers.filter (fun x => !(x.bit == j.bit)))) (lst n.store) (lst n.pends) (lst ([] : List JobV)) (lst n.results) j' (.sl .nil 0 [])) ∧
      m ≤ S.next ∧ (∀ q, q < m → q ≠ wid → S.boxes q = b q) ∧ (∀ q, q < m → S.iters q = i q) ∧ (∀ q, q < m → S.gens q = st.gens q) := by
  rw [callN_keep rfl (TF F144)]
  have hstep : ∀ d m b i, callN T (d + 3) 144 174 [.agg [.int .u64 n.me.id, .int .u16 n.me.addr, .int .i64 n.clock, .bool n.joined, p, l, f, s, w, jj, r, .int .u32 n.rid, .int .i64 n.jobID, .int .i64 n.nextBit], .int .u64 j.target] ⟨m, b, i, st.gens⟩ = some (.tup [.agg [.int .u64 n.me.id, .int .u16 n.me.addr], lst ([] : List PeerV), .bool true], ⟨m, b, i, st.gens⟩) := fun d m b i =>
    (step_alone n hl j.target).lent rfl (by omega) (by simp only [frozs, hN.froz, froz_int])
  have k209 := fun (d : Nat) (args : List AV) (s : St) => callN_keep (T := T) (d := d) (c := 144) (f := 209) rfl (TF F209) args s
  have k147 := fun (d : Nat) (args : List AV) (s : St) => callN_keep (T := T) (d := d) (c := 144) (f := 147) rfl (TF F147) args s
  have k230 := fun (d : Nat) (args : List AV) (s : St) => callN_keep (T := T) (d := d) (c := 147) (f := 230) rfl (TF F230) args s
  have k155 := fun (d : Nat) (args : List AV) (s : St) => callN_keep (T := T) (d := d) (c := 230) (f := 155) rfl (TF F155) args s
  have hj' : AV.agg [.int .i64 j.id, .int .i64 j.kind, .int .i64 j.bit, .str j.key, .str j.val, .int .u64 j.target, .int .u64 j.via.id, .int .u16 j.via.addr, .int .u64 j.at_.id, .int .u16 j.at_.addr, .bool false, .int .i64 0, .int .i64 j.tries, .int .i64 j.due] = av { j with doing := false, hops := 0 } := rfl
  have hk1 : (j.kind == 1) = false := by rw [hk]; rfl
  have hk4 : (j.kind == 4) = true := by rw [hk]; rfl
  have hfind : indexF (fun x => x.id == ({ j with doing := false, hops := 0 } : JobV).id) n.jobs = ((0 : Nat) : Int) := by rw [hj]; simp [indexF]
  have hkl : 0 < n.jobs.length := by rw [hj]; simp
  have hne : ∀ k, ¬ wid = m + k := fun k => by omega
  have hne' : ∀ k, ¬ m + k = wid := fun k => by omega
  simp (disch := first | omega | decide) only [m144, m209, go_sem, ↓reduceIte, Nat.add_assoc, Nat.add_left_cancel_iff, Nat.add_eq_left, Nat.left_eq_add, Nat.reduceEqDiff, Nat.reduceLeDiff, Nat.reduceAdd, Nat.reduceSub, Int.reduceLT, Int.reduceLE, Int.reduceGT, Int.reduceGE, Int.reduceEq, Int.reduceBEq, Int.reduceBNe, Int.reduceAdd, Int.reduceSub, Int.reduceNeg, Int.reduceToNat, beq_self_eq_true, bne_self_eq_false, Nat.add_zero, reduceCtorEq, hb, wCells, hne, hstep, k209, hj', hk1]
  generalize hc : callN T _ 209 263 _ _ = r'
  obtain ⟨b', rfl, hb'⟩ := set_cps hN hs _ hfind hkl (by omega) hc
  clear hc
  have hbw : b' wid = some (wCells n p l f s w jj r { j with doing := false, hops := 0 } (.sl .nil 0 [])) := by rw [hb' _ (by omega)]; simp only [go_sem, ↓reduceIte, Nat.add_assoc, Nat.add_left_cancel_iff, Nat.add_eq_left, Nat.left_eq_add, Nat.reduceEqDiff, Nat.reduceLeDiff, Nat.reduceAdd, Nat.reduceSub, Int.reduceLT, Int.reduceLE, Int.reduceGT, Int.reduceGE, Int.reduceEq, Int.reduceBEq, Int.reduceBNe, Int.reduceAdd, Int.reduceSub, Int.reduceNeg, Int.reduceToNat, beq_self_eq_true, bne_self_eq_false, Nat.add_zero, reduceCtorEq, wCells, hne]
  have hb30 : b' (m + 30) = some [.int .u64 n.me.id, .int .u16 n.me.addr] := by rw [hb' _ (by omega)]; simp only [go_sem, ↓reduceIte, Nat.add_assoc, Nat.add_left_cancel_iff, Nat.add_eq_left, Nat.left_eq_add, Nat.reduceEqDiff, Nat.reduceLeDiff, Nat.reduceAdd, Nat.reduceSub, Int.reduceLT, Int.reduceLE, Int.reduceGT, Int.reduceGE, Int.reduceEq, Int.reduceBEq, Int.reduceBNe, Int.reduceAdd, Int.reduceSub, Int.reduceNeg, Int.reduceToNat, beq_self_eq_true, bne_self_eq_false, Nat.add_zero, reduceCtorEq]
  simp (disch := first | omega | decide) only [m147, m230, go_sem, ↓reduceIte, Nat.add_assoc, Nat.add_left_cancel_iff, Nat.add_eq_left, Nat.left_eq_add, Nat.reduceEqDiff, Nat.reduceLeDiff, Nat.reduceAdd, Nat.reduceSub, Int.reduceLT, Int.reduceLE, Int.reduceGT, Int.reduceGE, Int.reduceEq, Int.reduceBEq, Int.reduceBNe, Int.reduceAdd, Int.reduceSub, Int.reduceNeg, Int.reduceToNat, beq_self_eq_true, bne_self_eq_false, Nat.add_zero, reduceCtorEq, hbw, hb30, wCells, hne, hne', k147, k230, hk1, hk4]
  generalize hc : callN T _ 230 214 _ _ = r'
  have hlf : n.fingers.length < 1000000000000 := by have := hs.fingers; omega
  obtain ⟨g', S, rfl, hS1, hS2, hS3⟩ := delF_cps (wid := wid) j.bit hc rfl (by simp only [go_sem, ↓reduceIte, Nat.add_assoc, Nat.add_left_cancel_iff, Nat.add_eq_left, Nat.left_eq_add, Nat.reduceEqDiff, Nat.reduceLeDiff, Nat.reduceAdd, Nat.reduceSub, Int.reduceLT, Int.reduceLE, Int.reduceGT, Int.reduceGE, Int.reduceEq, Int.reduceBEq, Int.reduceBNe, Int.reduceAdd, Int.reduceSub, Int.reduceNeg, Int.reduceToNat, beq_self_eq_true, bne_self_eq_false, Nat.add_zero, reduceCtorEq]) (by omega) hlf (by simp only [go_sem, ↓reduceIte, Nat.add_assoc, Nat.add_left_cancel_iff, Nat.add_eq_left, Nat.left_eq_add, Nat.reduceEqDiff, Nat.reduceLeDiff, Nat.reduceAdd, Nat.reduceSub, Int.reduceLT, Int.reduceLE, Int.reduceGT, Int.reduceGE, Int.reduceEq, Int.reduceBEq, Int.reduceBNe, Int.reduceAdd, Int.reduceSub, Int.reduceNeg, Int.reduceToNat, beq_self_eq_true, bne_self_eq_false, Nat.add_zero, reduceCtorEq, hne, hne']) (by simp only [go_sem, ↓reduceIte, Nat.add_assoc, Nat.add_left_cancel_iff, Nat.add_eq_left, Nat.left_eq_add, Nat.reduceEqDiff, Nat.reduceLeDiff, Nat.reduceAdd, Nat.reduceSub, Int.reduceLT, Int.reduceLE, Int.reduceGT, Int.reduceGE, Int.reduceEq, Int.reduceBEq, Int.reduceBNe, Int.reduceAdd, Int.reduceSub, Int.reduceNeg, Int.reduceToNat, beq_self_eq_true, bne_self_eq_false, Nat.add_zero, reduceCtorEq, hne, hne']) (by omega) (by omega)
  clear hc
  have hSw := hS2.box wid (by simp only; omega)
  have hS153 := hS2.box (m + 153) (by simp only; omega)
  have hSm := hS2.box (m + 30) (by simp only; omega)
  simp only [go_sem, ↓reduceIte, Nat.add_assoc, Nat.add_left_cancel_iff, Nat.add_eq_left, Nat.left_eq_add, Nat.reduceEqDiff, Nat.reduceLeDiff, Nat.reduceAdd, Nat.reduceSub, Int.reduceLT, Int.reduceLE, Int.reduceGT, Int.reduceGE, Int.reduceEq, Int.reduceBEq, Int.reduceBNe, Int.reduceAdd, Int.reduceSub, Int.reduceNeg, Int.reduceToNat, beq_self_eq_true, bne_self_eq_false, Nat.add_zero, reduceCtorEq, hne, hne', wCells] at hSw hS153 hSm
  simp (disch := first | omega | decide) only [m155, go_sem, ↓reduceIte, Nat.add_assoc, Nat.add_left_cancel_iff, Nat.add_eq_left, Nat.left_eq_add, Nat.reduceEqDiff, Nat.reduceLeDiff, Nat.reduceAdd, Nat.reduceSub, Int.reduceLT, Int.reduceLE, Int.reduceGT, Int.reduceGE, Int.reduceEq, Int.reduceBEq, Int.reduceBNe, Int.reduceAdd, Int.reduceSub, Int.reduceNeg, Int.reduceToNat, beq_self_eq_true, bne_self_eq_false, Nat.add_zero, reduceCtorEq, hSw, hS153, hSm, hne, hne', k155]
  generalize hc : callN T _ 155 239 _ _ = r'
  have hG : ∀ k, k < m + 168 → k ≠ m + 75 → S.gens k = upd st.gens (m + 98) (st.gens (m + 98) + 1) k := fun k h1 h2 => hS2.gens k h1 h2
  rw [(settle_tells { n with fingers := n.fingers.filter (fun x => !(x.bit == j.bit)), jobs := n.jobs.set 0 { j with doing := false, hops := 0 } } ⟨hs.pred, hs.list, Nat.le_trans (List.length_filter_le _ _) hs.fingers, hs.store, hs.pends, by simpa using hs.jobs, hs.results⟩ (k := 0) (id := j.id)
    (by rw [hj]; simp [indexF]) (by simpa using hkl) (by simp [hj, hk]) (by simp [hj, hk]) false (bs []) 0).lent rfl] at hc
  rotate_left
  · omega
  · simp (disch := first | omega | decide) only [froz_tup, froz_agg, frozs_cons, frozs_nil, froz_int, froz_bool, froz_str, froz_nil, froz_lst, froz_fam_eq, frozs_map, frozs_app, Option.map_some, Nat.le_add_right, Bool.and_self, go_sem, ↓reduceIte, Nat.add_assoc, Nat.add_left_cancel_iff, Nat.add_eq_left, Nat.left_eq_add, Nat.reduceEqDiff, Nat.reduceLeDiff, Nat.reduceAdd, Nat.reduceSub, Int.reduceLT, Int.reduceLE, Int.reduceGT, Int.reduceGE, Int.reduceEq, Int.reduceBEq, Int.reduceBNe, Int.reduceAdd, Int.reduceSub, Int.reduceNeg, Int.reduceToNat, beq_self_eq_true, bne_self_eq_false, Nat.add_zero, reduceCtorEq, hG, hS3]
    rfl
  subst hc
  simp (disch := first | omega | decide) only [go_sem, ↓reduceIte, Nat.add_assoc, Nat.add_left_cancel_iff, Nat.add_eq_left, Nat.left_eq_add, Nat.reduceEqDiff, Nat.reduceLeDiff, Nat.reduceAdd, Nat.reduceSub, Int.reduceLT, Int.reduceLE, Int.reduceGT, Int.reduceGE, Int.reduceEq, Int.reduceBEq, Int.reduceBNe, Int.reduceAdd, Int.reduceSub, Int.reduceNeg, Int.reduceToNat, beq_self_eq_true, bne_self_eq_false, Nat.add_zero, reduceCtorEq, cells_node]
  refine ⟨_, { j with doing := false, hops := 0 }, rfl, ?_, by simp only at hS1 ⊢; omega, fun q hq hqw => ?_, fun q hq => hS2.iter q (by simp only; omega), fun q hq => ?_⟩
  · simp only [go_sem, ↓reduceIte, Nat.add_assoc, Nat.add_left_cancel_iff, Nat.add_eq_left, Nat.left_eq_add, Nat.reduceEqDiff, Nat.reduceLeDiff, Nat.reduceAdd, Nat.reduceSub, Int.reduceLT, Int.reduceLE, Int.reduceGT, Int.reduceGE, Int.reduceEq, Int.reduceBEq, Int.reduceBNe, Int.reduceAdd, Int.reduceSub, Int.reduceNeg, Int.reduceToNat, beq_self_eq_true, bne_self_eq_false, Nat.add_zero, reduceCtorEq, hj, List.set_cons_zero, List.eraseIdx_cons_zero]
  · have h1 := hS2.box q (by simp only; omega)
    have h2 := hb' q (by omega)
    simp (disch := omega) only [upd, if_neg] at h1 h2 ⊢
    rw [h1, h2]
  · have h1 := hG q (by omega) (by omega)
    simp (disch := omega) only [upd, if_neg] at h1 ⊢
    exact h1

theorem on_cps {d c : Nat} {st : St} (n : NodeV) (hs : Small n) {id : Int} {k : Nat} (hfind : indexF (fun x => x.id == id) n.jobs = (k : Nat)) (hkl : k < n.jobs.length) (h1 : ¬ n.jobs[k].kind < 1) (h4 : ¬ n.jobs[k].kind > 4) {m : Nat} {b : Nat → Option (List AV)} {i : Nat → Option (ByteArray × Nat)} {r : Option (AV × St)}
    (hc : callN T (d + 5) c 116 [av n, .int .i64 id] ⟨m, b, i, st.gens⟩ = r) (hm : st.next ≤ m) :
    ∃ b', r = some (.tup [.ptr (m + 6) 0, .bool true], ⟨m + 103, b', i, st.gens⟩) ∧ (∀ q, q < m → b' q = b q) ∧
      b' (m + 6) = some ([.int .u64 n.me.id, .int .u16 n.me.addr, .int .i64 n.clock, .bool n.joined, .sl (.fam (m + 25) (st.gens (m + 25)) 0) 3 (n.pred.map av), .sl (.fam (m + 26) (st.gens (m + 26)) 0) 3 (n.list.map av), .sl (.fam (m + 27) (st.gens (m + 27)) 0) 3 (n.fingers.map av),
        .sl (.fam (m + 38) (st.gens (m + 38)) 0) 2 (n.store.map av), .sl (.fam (m + 39) (st.gens (m + 39)) 0) 7 (n.pends.map av), .sl (.fam (m + 50) (st.gens (m + 50)) 0) 14 (n.jobs.map av), .sl (.fam (m + 51) (st.gens (m + 51)) 0) 6 (n.results.map av),
        .int .u32 n.rid, .int .i64 n.jobID, .int .i64 n.nextBit] ++ (av n.jobs[k]).cells ++ [.sl .nil 0 []]) := by
  subst hc
  exact on_ex n hs hfind hkl h1 h4 m b i hm

theorem seek_cps {d c wid : Nat} {st : St} (n : NodeV) (hs : Small n) (hl : n.list = []) (j : JobV) (hj : n.jobs = [j]) (hk : j.kind = 4) {p l f s w jj r : AV} (hN : NRd st n p l f s w jj r) {m : Nat} {b : Nat → Option (List AV)} {i : Nat → Option (ByteArray × Nat)} {r' : Option (AV × St)}
    (hc : callN T (d + 16) c 144 [.ptr wid 0] ⟨m, b, i, st.gens⟩ = r') (hm : st.next ≤ m) (hw : wid < m) (hb : b wid = some (wCells n p l f s w jj r j (.sl .nil 0 []))) :
    ∃ S j', r' = some (.tup [], S) ∧ S.boxes wid = some (wCells { n with fingers := n.fingers.filter (fun x => !(x.bit == j.bit)), jobs := [] } (lst n.pred) (lst n.list) (lst (n.fingers.filter (fun x => !(x.bit == j.bit)))) (lst n.store) (lst n.pends) (lst ([] : List JobV)) (lst n.results) j' (.sl .nil 0 [])) ∧
      m ≤ S.next ∧ (∀ q, q < m → q ≠ wid → S.boxes q = b q) ∧ (∀ q, q < m → S.iters q = i q) ∧ (∀ q, q < m → S.gens q = st.gens q) := by
  subst hc
  exact seek_body n hs hl j hj hk hN m b i hm hw hb

theorem seek_alone (n : NodeV) (hs : Small n) (hl : n.list = []) (j : JobV) (hj : n.jobs = [j]) (hk : j.kind = 4) :
    Tells T 17 55 false [av n, .int .i64 j.id] (.tup [av { n with fingers := n.fingers.filter (fun x => !(x.bit == j.bit)), jobs := [] }, lst ([] : List OutV)]) := by
  refine ⟨m55, TF F55, fun d st hd => ?_⟩
  obtain ⟨d, rfl⟩ : ∃ k, d = k + 17 := ⟨d - 17, by omega⟩
  have k118 := fun (d : Nat) (args : List AV) (s : St) => callN_keep (T := T) (d := d) (c := 55) (f := 118) rfl (TF F118) args s
  have hfind : indexF (fun x => x.id == j.id) n.jobs = ((0 : Nat) : Int) := by rw [hj]; simp [indexF]
  have hkl : 0 < n.jobs.length := by rw [hj]; simp
  have hav : AV.agg [.int .u64 n.me.id, .int .u16 n.me.addr, .int .i64 n.clock, .bool n.joined, lst n.pred, lst n.list, lst n.fingers, lst n.store, lst n.pends, lst n.jobs, lst n.results, .int .u32 n.rid, .int .i64 n.jobID, .int .i64 n.nextBit] = av n := rfl
  simp (disch := first | omega | decide) only [m55, go_sem, ↓reduceIte, Nat.add_assoc, Nat.add_left_cancel_iff, Nat.add_eq_left, Nat.left_eq_add, Nat.reduceEqDiff, Nat.reduceLeDiff, Nat.reduceAdd, Nat.reduceSub, Int.reduceLT, Int.reduceLE, Int.reduceGT, Int.reduceGE, Int.reduceEq, Int.reduceBEq, Int.reduceBNe, Int.reduceAdd, Int.reduceSub, Int.reduceNeg, Int.reduceToNat, beq_self_eq_true, bne_self_eq_false, Nat.add_zero, reduceCtorEq, cells_node, hav]
  generalize hc : callN T _ 55 116 _ _ = r'
  obtain ⟨b', rfl, hb1, hb2⟩ := on_cps n hs hfind hkl (by simp [hj, hk]) (by simp [hj, hk]) hc (by omega)
  clear hc
  have hw : b' (st.next + 17) = some (wCells n (.sl (.fam (st.next + 36) (st.gens (st.next + 36)) 0) 3 (n.pred.map av)) (.sl (.fam (st.next + 37) (st.gens (st.next + 37)) 0) 3 (n.list.map av)) (.sl (.fam (st.next + 38) (st.gens (st.next + 38)) 0) 3 (n.fingers.map av)) (.sl (.fam (st.next + 49) (st.gens (st.next + 49)) 0) 2 (n.store.map av)) (.sl (.fam (st.next + 50) (st.gens (st.next + 50)) 0) 7 (n.pends.map av)) (.sl (.fam (st.next + 61) (st.gens (st.next + 61)) 0) 14 (n.jobs.map av)) (.sl (.fam (st.next + 62) (st.gens (st.next + 62)) 0) 6 (n.results.map av)) j (.sl .nil 0 [])) := by
    refine hb2.trans ?_
    simp only [hj, List.getElem_cons_zero, cells_job, List.cons_append, List.nil_append, wCells, Nat.add_assoc, Nat.reduceAdd]
  have hO := NRd.fam st n (m := st.next + 65) (k1 := st.next + 36) (k2 := st.next + 37) (k3 := st.next + 38) (k4 := st.next + 49) (k5 := st.next + 50) (k6 := st.next + 61) (k7 := st.next + 62) st.boxes st.iters (by omega) (by omega) (by omega) (by omega) (by omega) (by omega) (by omega)
  simp (disch := first | omega | decide) only [go_sem, ↓reduceIte, Nat.add_assoc, Nat.add_left_cancel_iff, Nat.add_eq_left, Nat.left_eq_add, Nat.reduceEqDiff, Nat.reduceLeDiff, Nat.reduceAdd, Nat.reduceSub, Int.reduceLT, Int.reduceLE, Int.reduceGT, Int.reduceGE, Int.reduceEq, Int.reduceBEq, Int.reduceBNe, Int.reduceAdd, Int.reduceSub, Int.reduceNeg, Int.reduceToNat, beq_self_eq_true, bne_self_eq_false, Nat.add_zero, reduceCtorEq]
  generalize hc : callN T _ 55 144 _ _ = r'
  obtain ⟨S, j', rfl, hS1, hS2, hS3, hS5⟩ := seek_cps n hs hl j hj hk hO hc (by simp only; omega) (by omega) hw
  clear hc
  have hS1b := hS3 (st.next + 1) (by omega) (by omega)
  rw [hb1 _ (by omega)] at hS1b
  simp only [go_sem, ↓reduceIte, Nat.add_assoc, Nat.add_left_cancel_iff, Nat.add_eq_left, Nat.left_eq_add, Nat.reduceEqDiff, Nat.reduceLeDiff, Nat.reduceAdd, Nat.reduceSub, Int.reduceLT, Int.reduceLE, Int.reduceGT, Int.reduceGE, Int.reduceEq, Int.reduceBEq, Int.reduceBNe, Int.reduceAdd, Int.reduceSub, Int.reduceNeg, Int.reduceToNat, beq_self_eq_true, bne_self_eq_false, Nat.add_zero, reduceCtorEq] at hS1b
  simp only [wCells] at hS1
  have hn1 : ∀ a, a < 100 → ¬ st.next + a = S.next := fun a _ => by omega
  have hn2 : ∀ a k, a < 100 → ¬ st.next + a = S.next + k := fun a k _ => by omega
  have hn3 : ∀ a, a < 100 → ¬ S.next = st.next + a := fun a _ => by omega
  have hn4 : ∀ a k, a < 100 → ¬ S.next + k = st.next + a := fun a k _ => by omega
  have hn5 : ∀ k, ¬ S.next + k = st.next := fun k => by omega
  have hn6 : ∀ k, ¬ st.next = S.next + k := fun k => by omega
  simp (disch := first | omega | decide) only [m118, go_sem, ↓reduceIte, Nat.add_assoc, Nat.add_left_cancel_iff, Nat.add_eq_left, Nat.left_eq_add, Nat.reduceEqDiff, Nat.reduceLeDiff, Nat.reduceAdd, Nat.reduceSub, Int.reduceLT, Int.reduceLE, Int.reduceGT, Int.reduceGE, Int.reduceEq, Int.reduceBEq, Int.reduceBNe, Int.reduceAdd, Int.reduceSub, Int.reduceNeg, Int.reduceToNat, beq_self_eq_true, bne_self_eq_false, Nat.add_zero, reduceCtorEq, k118, hS1, hS1b, hn1, hn2, hn3, hn4, hn5, hn6]
  refine ⟨_, _, rfl, ⟨fun q hq => ?_, fun q hq => hS5.1 q (by omega), fun q hq => hS5.2 q (by omega)⟩, by simp only [froz_tup, froz_agg, frozs_cons, frozs_nil, froz_int, froz_bool, froz_str, froz_nil, froz_lst, froz_fam_eq, frozs_map, frozs_app, Option.map_some, Nat.le_add_right, Bool.and_self, go_sem, ↓reduceIte, Nat.add_assoc, Nat.add_left_cancel_iff, Nat.add_eq_left, Nat.left_eq_add, Nat.reduceEqDiff, Nat.reduceLeDiff, Nat.reduceAdd, Nat.reduceSub, Int.reduceLT, Int.reduceLE, Int.reduceGT, Int.reduceGE, Int.reduceEq, Int.reduceBEq, Int.reduceBNe, Int.reduceAdd, Int.reduceSub, Int.reduceNeg, Int.reduceToNat, beq_self_eq_true, bne_self_eq_false, Nat.add_zero, reduceCtorEq, lst_nil]; rfl, nofun⟩
  have h1 := hS3 q (by omega) (by omega)
  have h2 := hb1 q (by omega)
  simp (disch := omega) only [upd, if_neg] at h1 h2 ⊢
  rw [h1, h2]

end Go.Ev.Nd
