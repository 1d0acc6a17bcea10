/- slices.Delete: what lies behind is moved on in place, and the rest is cleared. -/
import Derived.Test.YtlidbfnamhgnlaaGreatDoorEvY
import Derived.StillTail
namespace Go.Ev
open Go

theorem run_append_room {P : Program} {t t' ty e e' : TypeId} {i : TypeInfo} {w w' : World} (ht : P.underlying t = some (.slice e)) (ht' : P.underlying t' = some (.slice e')) (hi : P.info? e = some i) {base : Addr} {n m k : Nat} {vy : Value} {news : List Value}
    (hlen : (Builtin.lenOf vy).run P w = .ok k w) (hnew : (Builtin.firstCells i.size k vy).run P w = .ok news.toArray w) (hroom : n + k ≤ m) (hst : (storeCells (base.add (n * i.size)) news).run P w = .ok () w') :
    (Builtin.append_ #[t, t'] ty #[.slice (some base) n m, vy]).run P w = .ok (.slice (some base) (n + k) m) w' := by
  simp [Builtin.append_, run_underlying ht, run_underlying ht', sizeOf, typeInfo, hi, hlen, hroom, hnew, hst]
theorem run_slice {P : Program} {X : Ctx} (w : World) {t e : TypeId} {sz : Nat} (ht : P.underlying t = some (.slice e)) (hsz : szOf P e = some sz) {a : Addr} {n m l h : Nat} {lo hi : Option AV} {vlo vhi : Option Value} (hlo : RelO X lo vlo) (hhi : RelO X hi vhi)
    (el : bnd 0 lo = some l) (eh : bnd n hi = some h) (hlh : l ≤ h) (hhm : h ≤ m) :
    (Instr.sliceAt t (.slice (some a) n m) vlo vhi none).run P w = .ok (.slice (if m = l then some a else some (a.add (l * sz))) (h - l) (m - l)) w := by
  simp only [Instr.sliceAt, Sem.run_bind, run_und ht, Result.andThen_ok, Instr.slice, Option.isSome_none, Bool.false_eq_true, if_false]
  rw [run_bounds w true hlo hhi el eh hlh hhm]
  simp only [Result.andThen_ok, run_sizeOf hsz, Sem.run_pure]
  split <;> rfl

/-- Appending in place: what comes is the same row, longer. -/
theorem append_room {P : Program} {t t' ty e e' : TypeId} {i : TypeInfo} {w w' : World} (ht : P.underlying t = some (.slice e)) (ht' : P.underlying t' = some (.slice e')) (hi : P.info? e = some i) {base : Addr} {n m k m' : Nat} {b : Option Addr} {u : Value}
    (hroom : n + k ≤ m) (h : (Builtin.append_ #[t, t'] ty #[.slice (some base) n m, .slice b k m']).run P w = .ok u w') : u = .slice (some base) (n + k) m := by
  simp [Builtin.append_, run_underlying ht, run_underlying ht', sizeOf, typeInfo, hi, Builtin.lenOf, hroom] at h
  cases h1 : (Builtin.firstCells i.size k (.slice b k m')).run P w with
  | halt x w1 => rw [h1] at h; simp [Result.andThen] at h
  | ok c w1 =>
    rw [h1, Result.andThen_ok] at h
    cases h2 : (storeCells (base.add (n * i.size)) c.toList).run P w1 with
    | halt x w2 => rw [h2] at h; simp [Result.andThen] at h
    | ok c2 w2 =>
      rw [h2, Result.andThen_ok] at h
      exact (Result.ok.inj h).1.symm
abbrev Meta := Nat → Nat → TypeId × String × Array Edge

def O (x : TypeId × String × Array Edge) (d : Option Tmp) (op : Op) : Oper := { dst := d, op := op, type := x.1, pos := x.2.1, after := x.2.2, guard := none }

def lenOp (t : TypeId) (x : Operand) : Op := .call { callee := .builtin .len, args := #[x], argTypes := #[t] }

def delA (t : TypeId) (M : Meta) : Code :=
  .region 1 #[O (M 1 0) (some 8) (.move (.tmp 0)), O (M 1 1) (some 9) (.move (.tmp 1)), O (M 1 2) (some 10) (.move (.tmp 2)), O (M 1 3) (some 11) (.move (.tmp 0)), O (M 1 4) (some 12) (lenOp t (.tmp 11)),
    O (M 1 5) (some 13) (.slice t (.tmp 8) (some (.tmp 9)) (some (.tmp 10)) (some (.tmp 12)))] false

def delB (it : TypeId) (M : Meta) : Code :=
  (Code.region 2 #[O (M 2 0) (some 14) (.move (.tmp 1)), O (M 2 1) (some 15) (.move (.tmp 2)), O (M 2 2) (some 16) (.binOp .eql it (.tmp 14) (.tmp 15) it)] false).seq
    (.cond (.tmp 16) ((Code.region 3 #[O (M 3 0) (some 17) (.move (.tmp 0)), O (M 3 1) (some 6) (.assign (.tmp 17))] false).seq .ret) .skip)

def delC (t : TypeId) (M : Meta) : Code :=
  .region 4 #[O (M 4 0) (some 18) (.move (.tmp 0)), O (M 4 1) (some 19) (lenOp t (.tmp 18)), O (M 4 2) (some 7) (.assign (.tmp 19))] false

def delD (t : TypeId) (M : Meta) : List Oper :=
  [O (M 5 0) (some 20) (.move (.tmp 0)), O (M 5 1) (some 21) (.move (.tmp 1)), O (M 5 2) (some 22) (.slice t (.tmp 20) none (some (.tmp 21)) none), O (M 5 3) (some 23) (.move (.tmp 0)), O (M 5 4) (some 24) (.move (.tmp 2)),
    O (M 5 5) (some 25) (.slice t (.tmp 23) (some (.tmp 24)) none none), O (M 5 6) (some 26) (.call { callee := .builtin .append, args := #[.tmp 22, .tmp 25], argTypes := #[t, t] }), O (M 5 7) (some 0) (.assign (.tmp 26))]

def delE (t : TypeId) (M : Meta) : Code :=
  .region 6 #[O (M 6 0) (some 27) (.move (.tmp 0)), O (M 6 1) (some 28) (.move (.tmp 0)), O (M 6 2) (some 29) (lenOp t (.tmp 28)), O (M 6 3) (some 30) (.move (.tmp 7)), O (M 6 4) (some 31) (.slice t (.tmp 27) (some (.tmp 29)) (some (.tmp 30)) none),
    O (M 6 5) none (.call { callee := .builtin .clear, args := #[.tmp 31], argTypes := #[t] })] false

def delF (M : Meta) : Code := (Code.region 7 #[O (M 7 0) (some 32) (.move (.tmp 0)), O (M 7 1) (some 6) (.assign (.tmp 32))] false).seq .ret

/-- The text of slices.Delete at any list's type. -/
def deleteBody (t it : TypeId) (M : Meta) : Code :=
  (Code.region 0 #[O (M 0 0) (some 6) (.assign (.const (.slice none 0 0)))] false).seq ((delA t M).seq ((delB it M).seq ((delC t M).seq ((Code.region 5 (delD t M).toArray true).seq ((delE t M).seq (delF M))))))

/-- What a text says besides of its operations. -/
def metaOf (regs : List (Nat × Array Oper)) : Meta := fun r k => match (regs.find? (·.1 == r)).bind (·.2[k]?) with
  | some o => (o.type, o.pos, o.after)
  | none => (0, "", #[])

def regsOf : Code → List (Nat × Array Oper)
  | .region id ops _ => [(id, ops)]
  | .seq a b => regsOf a ++ regsOf b
  | .cond _ a b => regsOf a ++ regsOf b
  | .block _ c => regsOf c
  | .loop c => regsOf c
  | _ => []

theorem natOf_cast (k : IntKind) (n : Nat) : natOf (.int k (n : Int)) = some n := by simp [natOf]

def delE1 (x : AV) (i j : Nat) : Env := upd (env0 [x, .int .i64 i, .int .i64 j]) 6 (.sl .nil 0 [])
def delE2 (c : Cap) (sz : Nat) (xs : List AV) (i j : Nat) : Env :=
  upd (upd (upd (upd (upd (upd (delE1 (.sl c sz xs) i j) 8 (.sl c sz xs)) 9 (.int .i64 i)) 10 (.int .i64 j)) 11 (.sl c sz xs)) 12 (.int .i64 xs.length)) 13 (.sl (c.shift i) sz ((xs.take j).drop i))
def delE3 (c : Cap) (sz : Nat) (xs : List AV) (i j : Nat) : Env := upd (upd (upd (delE2 c sz xs i j) 14 (.int .i64 i)) 15 (.int .i64 j)) 16 (.bool false)
def delE4 (c : Cap) (sz : Nat) (xs : List AV) (i j : Nat) : Env := upd (upd (upd (delE3 c sz xs i j) 18 (.sl c sz xs)) 19 (.int .i64 xs.length)) 7 (.int .i64 xs.length)

theorem del_first {P : Program} (hm : P.follows .mixedOrders = true) {t it e : TypeId} {M : Meta} {sz : Nat} (hu : P.underlying t = some (.slice e)) (hsz : szOf P e = some sz) (hit : P.underlying it = some (.int .i64))
    {c : Cap} {xs : List AV} {i j : Nat} (hij : i < j) (hj : j ≤ xs.length) {γ : Gh} {st : St} {w : World} {a : Act} (hS : RelS γ st w) (hE : RelE γ st w 33 (env0 [.sl c sz xs, .int .i64 i, .int .i64 j]) a) {Q : Exit → Act → World → Prop} {rest : Code}
    (hQ : ∀ γ' w' a', Step γ st w γ' { st with next := st.next + 13 } w' (fun id => id < st.next) → RelE γ' { st with next := st.next + 13 } w' 33 (delE4 c sz xs i j) a' → rest.wp P Q a' w') :
    ((Code.region 0 #[O (M 0 0) (some 6) (.assign (.const (.slice none 0 0)))] false).seq ((delA t M).seq ((delB it M).seq ((delC t M).seq rest)))).wp P Q a w := by
  refine wp_seq (code_sound hm noCall_ok (nt := 33) (k := 1) _ (.reg 1 [⟨some 6, none, .mv (.c (.sl .nil 0 [])), 0, 0⟩]) (by simp [O, compC, compIs, compI, compOp, opdOf, avOf, dstOk]) γ st w _ a .normal
    (delE1 (.sl c sz xs) i j) { st with next := st.next + 1 } hS hE rfl _ (fun γ1 w1 a1 hst1 hE1 => ?_))
  refine wp_seq (code_sound hm noCall_ok (nt := 33) (k := 1) _ (.reg 6 [⟨some 8, none, .mv (.t 0), 0, 0⟩, ⟨some 9, none, .mv (.t 1), 0, 0⟩, ⟨some 10, none, .mv (.t 2), 0, 0⟩, ⟨some 11, none, .mv (.t 0), 0, 0⟩, ⟨some 12, none, .len false (.t 11), 0, 0⟩,
      ⟨some 13, none, .slice 5 sz (.t 8) (some (.t 9)) (some (.t 10)) (some (.t 12)), 0, 0⟩]) (by simp [delA, O, lenOp, compC, compIs, compI, compOp, opdOf, opdO, dstOk, hu, hsz]) γ1 _ w1 _ a1 .normal
    (delE2 c sz xs i j) { st with next := st.next + 7 } hst1.rel hE1 ?_ _ (fun γ2 w2 a2 hst2 hE2 => ?_))
  · have h2 : (xs.length = i) = False := by simp; omega
    simp [evC, evIs, gv, evOp, evSlice, evLen, bnd, natOf_cast, hoist, putD, Opd.ev, upd, env0, delE1, delE2, hj, Nat.le_of_lt hij, h2]
  refine wp_seq (code_sound hm noCall_ok (nt := 33) (k := 1) _ (.seq (.reg 3 [⟨some 14, none, .mv (.t 1), 0, 0⟩, ⟨some 15, none, .mv (.t 2), 0, 0⟩, ⟨some 16, none, .bin .eql (.t 14) (.t 15), 0, 0⟩])
      (.cond (.t 16) (.seq (.reg 2 [⟨some 17, none, .mv (.t 0), 0, 0⟩, ⟨some 6, none, .mv (.t 17), 0, 0⟩]) .ret) .skip)) (by simp [delB, O, compC, compIs, compI, compOp, opdOf, dstOk, binOfT, eqOfT, hit]) γ2 _ w2 _ a2 .normal
    (delE3 c sz xs i j) { st with next := st.next + 10 } hst2.rel hE2 ?_ _ (fun γ3 w3 a3 hst3 hE3 => ?_))
  · have h2 : ((i : Int) == (j : Int)) = false := by simp; omega
    simp [evC, evIs, gv, evOp, evBin, binI, hoist, putD, Opd.ev, upd, env0, delE1, delE2, delE3, h2]
  refine wp_seq (code_sound hm noCall_ok (nt := 33) (k := 1) _ (.reg 3 [⟨some 18, none, .mv (.t 0), 0, 0⟩, ⟨some 19, none, .len false (.t 18), 0, 0⟩, ⟨some 7, none, .mv (.t 19), 0, 0⟩])
      (by simp [delC, O, lenOp, compC, compIs, compI, compOp, opdOf, dstOk, hu]) γ3 _ w3 _ a3 .normal
    (delE4 c sz xs i j) { st with next := st.next + 13 } hst3.rel hE3 ?_ _ (fun γ4 w4 a4 hst4 hE4 => ?_))
  · simp [evC, evIs, gv, evOp, evLen, hoist, putD, Opd.ev, upd, env0, delE1, delE2, delE3, delE4]
  refine hQ γ4 w4 a4 ?_ hE4
  have h12 := hst1.trans hst2 (M := fun id => id < st.next) (fun _ h => h) (fun id h => by show id < st.next + 1; omega)
  have h13 := h12.trans hst3 (M := fun id => id < st.next) (fun _ h => h) (fun id h => by show id < st.next + 7; omega)
  exact h13.trans hst4 (M := fun id => id < st.next) (fun _ h => h) (fun id h => by show id < st.next + 10; omega)

theorem wpStill_value {P : Program} {ops : Array Oper} {w : World} {Q : Act → Prop} {o : Oper} {rest : List Oper} {a : Act} {v : Value} (hg : o.guard = none) (hrun : (execOp a.eval o).run P w = .ok (.value v) w) (h : wpStill P ops w Q rest (a.put o.dst v)) :
    wpStill P ops w Q (o :: rest) a := by
  simp only [wpStill]
  rw [if_pos (by simp [Region.wanted, hg])]
  simp only [Oper.still, hrun]
  rw [Oper.stillUpon_value]; exact h

theorem wpList_value {P : Program} {ops : Array Oper} {w w' : World} {Q : Exit → Act → World → Prop} {o : Oper} {rest : List Oper} {a : Act} {v : Value} (hg : o.guard = none) (hrun : (execOp a.eval o).run P w = .ok (.value v) w') (h : wpList P ops Q rest (a.put o.dst v) w') :
    wpList P ops Q (o :: rest) a w := by
  simp only [wpList]
  rw [if_pos (by simp [Region.wanted, hg])]
  left
  simp only [Oper.wp, hrun]
  rw [Oper.upon_value]; exact h

theorem put_get {a : Act} {d : Nat} {v : Value} {n : Nat} (hs : a.tmps.size = n) (hd : d < n) : (a.put (some d) v).tmps.getD d undef = v := by
  simp [Act.put, Array.getD_eq_getD_getElem?, hs, hd]

theorem put_get_ne {a : Act} {d k : Nat} {v : Value} (h : k ≠ d) : (a.put (some d) v).tmps.getD k undef = a.tmps.getD k undef := by
  simp only [Act.put]
  rw [Array.getD_eq_getD_getElem?, Array.getD_eq_getD_getElem?, Array.getElem?_setIfInBounds_ne (Ne.symm h)]

def delE5 (τ g o ν h : Nat) (sz : Nat) (xs : List AV) (i j : Nat) : Env :=
  upd (upd (upd (upd (upd (upd (upd (upd (delE4 (.fam τ g o) sz xs i j) 20 (.sl (.fam τ g o) sz xs)) 21 (.int .i64 i)) 22 (.sl (.fam τ g o) sz (xs.take i))) 23 (.sl (.fam τ g o) sz xs)) 24 (.int .i64 j)) 25 (.sl (.fam τ g (o + j)) sz (xs.drop j)))
    26 (.sl (.fam ν h 0) sz (xs.take i ++ xs.drop j))) 0 (.sl (.fam ν h 0) sz (xs.take i ++ xs.drop j))

theorem del_move {P : Program} (hm : P.follows .mixedOrders = true) {t : TypeId} {M : Meta} {sz lim : Nat} (hT : ListType P t sz lim) (hB : Region.lexTailB .any (delD t M).toArray 6 = true) {τ g o : Nat} {xs : List AV} {i j : Nat} (hij : i < j) (hj : j ≤ xs.length)
    (hlim : xs.length ≤ lim) {γ : Gh} {st : St} {w : World} {a : Act} (hS : RelS γ st w) (hE : RelE γ st w 33 (delE4 (.fam τ g o) sz xs i j) a) (hg : st.gens τ = g) {K : Act → World → Prop} {Q : Exit → Act → World → Prop}
    (hK : ∀ γ' w' a' b off m, Step γ st w γ' ⟨st.next + 1, st.boxes, st.iters, upd st.gens τ (g + 1)⟩ w' (fun id => id < st.next) → RelE γ' ⟨st.next + 1, st.boxes, st.iters, upd st.gens τ (g + 1)⟩ w' 33 (delE5 τ g o st.next (upd st.gens τ (g + 1) st.next) sz xs i j) a' →
      a'.tmps.getD 0 undef = .slice (some ⟨b, off, none⟩) (xs.take i ++ xs.drop j).length m → xs.length ≤ m → K a' w') :
    (Code.region 5 (delD t M).toArray true).wp P (Exit.then K Q) a w := by
  obtain ⟨e, z, hu, hel, hsz, hlm, hz, hpos, hzl, _⟩ := hT.ex
  refine wp_region_still_tail 6 hm hB ?_
  have hS' : RelS γ st w.drew := relS_drew hS
  have hE' : RelE γ st w.drew 33 (delE4 (.fam τ g o) sz xs i j) a := hE.mono (le_drew _ _ _)
  show wpStill P _ w.drew (fun a' => wpList P _ _ ((delD t M).drop 6) a' w.drew) ((delD t M).take 6) a
  have h0 : RelV ⟨γ, st.gens, w.drew⟩ (.sl (.fam τ g o) sz xs) (a.tmps.getD 0 undef) := hE'.rel 0
  have h1 : a.tmps.getD 1 undef = .int .i64 i := by have := hE'.rel 1; generalize a.tmps.getD 1 undef = u at this; cases this; rfl
  have h2 : a.tmps.getD 2 undef = .int .i64 j := by have := hE'.rel 2; generalize a.tmps.getD 2 undef = u at this; cases this; rfl
  obtain ⟨ad, m, hv0, hm0, hne0⟩ := sl_len h0
  obtain ⟨b, off, rfl⟩ := hne0 (by rintro rfl; simp at hj; omega)
  have hs0 := hE'.size
  simp only [delD, List.take, List.drop]
  -- the six that change nothing
  refine wpStill_value (v := .slice (some ⟨b, off, none⟩) xs.length m) rfl (by simp only [O, execOp, Act.eval]; rw [hv0]; rfl) ?_
  have E1 := put_rel hE' (hv0 ▸ h0) (dst := some 20) (by simp)
  have A0 : (a.put (some 20) (.slice (some ⟨b, off, none⟩) xs.length m)).tmps.getD 0 undef = .slice (some ⟨b, off, none⟩) xs.length m := (put_get_ne (by decide)).trans hv0
  have A1 : (a.put (some 20) (.slice (some ⟨b, off, none⟩) xs.length m)).tmps.getD 1 undef = .int .i64 i := (put_get_ne (by decide)).trans h1
  have A2 : (a.put (some 20) (.slice (some ⟨b, off, none⟩) xs.length m)).tmps.getD 2 undef = .int .i64 j := (put_get_ne (by decide)).trans h2
  have A20 : (a.put (some 20) (.slice (some ⟨b, off, none⟩) xs.length m)).tmps.getD 20 undef = .slice (some ⟨b, off, none⟩) xs.length m := put_get hs0 (by decide)
  rw [show (O (M 5 0) (some 20) (Op.move (.tmp 0))).dst = some 20 from rfl]
  generalize a.put (some 20) (.slice (some ⟨b, off, none⟩) xs.length m) = a1 at *
  refine wpStill_value (v := .int .i64 i) rfl (by simp only [O, execOp, Act.eval]; rw [A1]; rfl) ?_
  have E2 := put_rel E1 (.int .i64 (i : Int)) (dst := some 21) (by simp)
  have B0 := (put_get_ne (a := a1) (d := 21) (v := .int .i64 i) (k := 0) (by decide)).trans A0
  have B2 := (put_get_ne (a := a1) (d := 21) (v := .int .i64 i) (k := 2) (by decide)).trans A2
  have B20 := (put_get_ne (a := a1) (d := 21) (v := .int .i64 i) (k := 20) (by decide)).trans A20
  have B21 := put_get (v := .int .i64 i) E1.size (d := 21) (by decide)
  rw [show (O (M 5 1) (some 21) (Op.move (.tmp 1))).dst = some 21 from rfl]
  generalize a1.put (some 21) (.int .i64 i) = a2 at *
  have cut1 : RelV ⟨γ, st.gens, w.drew⟩ (.sl (.fam τ g o) sz (xs.take i)) (.slice (some ⟨b, off, none⟩) i m) := by
    have := relV_cut (hv0 ▸ h0) (l := 0) (h := i) (m' := m) (sz := sz) (Nat.zero_le _) (by omega) (by omega) (Nat.le_refl _) (.inl rfl)
    simpa [Cap.shift, add_at] using this
  refine wpStill_value (v := .slice (some ⟨b, off, none⟩) i m) rfl ?_ ?_
  · simp only [O, execOp, Act.eval, Option.map]
    rw [B20, B21]
    have := run_slice (P := P) (X := ⟨γ, st.gens, w.drew⟩) w.drew hu hsz (a := ⟨b, off, none⟩) (n := xs.length) (m := m) (l := 0) (h := i) (lo := none) (hi := some (.int .i64 i)) (vlo := none) (vhi := some (.int .i64 i)) trivial (.int _ _) rfl (natOf_cast .i64 _) (Nat.zero_le _) (by omega)
    simp only [Sem.run_bind]
    rw [this]
    simp [add_at]
  have E3 := put_rel E2 cut1 (dst := some 22) (by simp)
  have C0 := (put_get_ne (a := a2) (d := 22) (v := .slice (some ⟨b, off, none⟩) i m) (k := 0) (by decide)).trans B0
  have C2 := (put_get_ne (a := a2) (d := 22) (v := .slice (some ⟨b, off, none⟩) i m) (k := 2) (by decide)).trans B2
  have C22 := put_get (v := .slice (some ⟨b, off, none⟩) i m) E2.size (d := 22) (by decide)
  rw [show (O (M 5 2) (some 22) (Op.slice t (.tmp 20) none (some (.tmp 21)) none)).dst = some 22 from rfl]
  generalize a2.put (some 22) (.slice (some ⟨b, off, none⟩) i m) = a3 at *
  refine wpStill_value (v := .slice (some ⟨b, off, none⟩) xs.length m) rfl (by simp only [O, execOp, Act.eval]; rw [C0]; rfl) ?_
  have E4 := put_rel E3 (hv0 ▸ h0) (dst := some 23) (by simp)
  have D2 := (put_get_ne (a := a3) (d := 23) (v := .slice (some ⟨b, off, none⟩) xs.length m) (k := 2) (by decide)).trans C2
  have D22 := (put_get_ne (a := a3) (d := 23) (v := .slice (some ⟨b, off, none⟩) xs.length m) (k := 22) (by decide)).trans C22
  have D23 := put_get (v := .slice (some ⟨b, off, none⟩) xs.length m) E3.size (d := 23) (by decide)
  rw [show (O (M 5 3) (some 23) (Op.move (.tmp 0))).dst = some 23 from rfl]
  generalize a3.put (some 23) (.slice (some ⟨b, off, none⟩) xs.length m) = a4 at *
  refine wpStill_value (v := .int .i64 j) rfl (by simp only [O, execOp, Act.eval]; rw [D2]; rfl) ?_
  have E5 := put_rel E4 (.int .i64 (j : Int)) (dst := some 24) (by simp)
  have F22 := (put_get_ne (a := a4) (d := 24) (v := .int .i64 j) (k := 22) (by decide)).trans D22
  have F23 := (put_get_ne (a := a4) (d := 24) (v := .int .i64 j) (k := 23) (by decide)).trans D23
  have F24 := put_get (v := .int .i64 j) E4.size (d := 24) (by decide)
  rw [show (O (M 5 4) (some 24) (Op.move (.tmp 2))).dst = some 24 from rfl]
  generalize a4.put (some 24) (.int .i64 j) = a5 at *
  have cut2 := relV_cut (hv0 ▸ h0) (l := j) (h := xs.length) (m' := m) (sz := sz) hj (Nat.le_refl _) (by omega) (Nat.le_refl _) (.inl rfl)
  rw [List.take_length] at cut2
  generalize hv25 : Value.slice (if m = j then some (⟨b, off, none⟩ : Addr) else (some (⟨b, off, none⟩ : Addr)).map (·.add (j * sz))) (xs.length - j) (m - j) = v25 at cut2
  refine wpStill_value (v := v25) rfl ?_ ?_
  · simp only [O, execOp, Act.eval, Option.map]
    rw [F23, F24]
    have := run_slice (P := P) (X := ⟨γ, st.gens, w.drew⟩) w.drew hu hsz (a := ⟨b, off, none⟩) (n := xs.length) (m := m) (l := j) (h := xs.length) (lo := some (.int .i64 j)) (hi := none) (vlo := some (.int .i64 j)) (vhi := none) (.int _ _) trivial (natOf_cast .i64 _) rfl hj (by omega)
    simp only [Sem.run_bind]
    rw [this, ← hv25]; rfl
  have E6 := put_rel E5 cut2 (dst := some 25) (by simp)
  have G22 := (put_get_ne (a := a5) (d := 25) (v := v25) (k := 22) (by decide)).trans F22
  have G25 := put_get (v := v25) E5.size (d := 25) (by decide)
  rw [show (O (M 5 5) (some 25) (Op.slice t (.tmp 23) (some (.tmp 24)) none none)).dst = some 25 from rfl]
  generalize a5.put (some 25) v25 = a6 at *
  refine wpStill_nil ?_
  -- what lies behind is moved on
  obtain ⟨zv, hzr, hzv, inf, hinf, hiz⟩ := run_zero hz w.drew
  obtain ⟨hcl, _⟩ := cells_rel (relV_avOf ⟨γ, st.gens, w.drew⟩ _ zv z (Nat.le_refl _) hzv)
  have hisz : inf.size = sz := by simp [szOf, hinf] at hsz; exact hsz
  have hlim' : lim = 140737488355328 / max inf.bytes 1 := by simp [limOf, hinf] at hlm; exact hlm.symm
  obtain ⟨hb1, hb2, hb3⟩ := region_begin hS' (is := [⟨none, none, .mv (.c .junk), 0, 0⟩]) (n := 1) (fun q hq k z ha => by
    have : q = 0 := by simpa using hq
    subst this; cases ha) rfl
  have hfr := hb3 0 (by simp)
  change Step γ st w.drew { γ with top := γ.top + 1 } { st with next := st.next + 1 } w.drew (fun id => id < st.next) at hb1
  change Fresh { γ with top := γ.top + 1 } { st with next := st.next + 1 } (st.next + 0) _ at hfr
  have hx22 : RelV ⟨{ γ with top := γ.top + 1 }, st.gens, w.drew⟩ (.sl (.fam τ g o) sz (xs.take i)) (.slice (some ⟨b, off, none⟩) i m) := cut1.mono hb1.le
  have hx25 : RelV ⟨{ γ with top := γ.top + 1 }, st.gens, w.drew⟩ (.sl (.fam τ g (o + j)) sz (xs.drop j)) v25 := cut2.mono hb1.le
  have hl22 : (xs.take i).length = i := by simp; omega
  obtain ⟨γ5, u, w5, hrun, hst5, hv5⟩ := sound_append (P := P) hb1.rel (ty := (M 5 6).1) (t := t) (t' := t) (e := e) hu (.inl ⟨e, hu⟩) hinf hiz hisz (by omega) hpos (id := st.next + 0) (by show st.next + 0 < st.next + 1; omega) hfr.fam hx22 hx25
    (ys := xs.drop j) (by simp [srcOf, okc, hg]) (by simp [appOk, hg]) (.inl rfl) (by rw [← hlim']; simp; omega)
  have hu5 : u = .slice (some ⟨b, off, none⟩) (i + (xs.length - j)) m := by
    rw [← hv25] at hrun
    split at hrun
    · exact append_room hu hu hinf (by omega) hrun
    · exact append_room hu hu hinf (by omega) hrun
  have hne : st.next + 0 = st.next := rfl
  rw [hne] at hst5 hv5
  have E7 := put_rel ((E6.mono hb1.le).mono hst5.le) hv5 (dst := some 26) (by simp)
  have G22' : a6.eval (.tmp 22) = .slice (some ⟨b, off, none⟩) i m := G22
  have G25' : a6.eval (.tmp 25) = v25 := G25
  refine wpList_value (w' := w5) (v := u) rfl ?_ ?_
  · simp only [O, execOp, resolve, Sem.run_bind, Sem.run_pure, Result.andThen_ok, invoke]
    simp only [List.map_toArray, List.map_cons, List.map_nil, G22', G25', builtin]
    simp only [Sem.run_bind]
    rw [hrun]; rfl
  have H26 := put_get (v := u) E6.size (d := 26) (by decide)
  rw [show (O (M 5 6) (some 26) (Op.call { callee := Callee.builtin Builtin.append, args := #[Operand.tmp 22, Operand.tmp 25], argTypes := #[t, t] })).dst = some 26 from rfl]
  generalize a6.put (some 26) u = a7 at *
  refine wpList_value (w' := w5) (v := u) rfl (by simp only [O, execOp, Act.eval]; rw [H26]; rfl) ?_
  have E8 := put_rel E7 hv5 (dst := some 0) (by simp)
  have I0 := put_get (v := u) E7.size (d := 0) (by decide)
  have hdrew : Step γ st w γ st w.drew (fun id => id < st.next) := ⟨le_drew _ _ _, hS', fun _ _ => ⟨rfl, rfl, fun _ => ⟨rfl, rfl⟩⟩, Nat.le_refl _⟩
  have hall := (hdrew.trans hb1 (M := fun id => id < st.next) (fun _ h => h) (fun _ h => h)).trans hst5 (M := fun id => id < st.next) (fun _ h => h) (fun id h => by omega)
  have hlen2 : (xs.take i ++ xs.drop j).length = i + (xs.length - j) := by simp; omega
  refine hK γ5 w5 _ b off m hall E8 ?_ hm0
  rw [hlen2, ← hu5]; exact I0

theorem RelE.retell {γ : Gh} {st : St} {w : World} {nt : Nat} {e : Env} {a : Act} (hE : RelE γ st w nt e a) {t : Nat} {v : AV} (hv : RelV ⟨γ, st.gens, w⟩ v (a.tmps.getD t undef)) : RelE γ st w nt (upd e t v) a := by
  refine ⟨hE.defers, hE.size, fun t' => ?_⟩
  by_cases h : t' = t
  · subst h; rw [upd_eq]; exact hv
  · rw [upd_ne _ _ _ _ h]; exact hE.rel t'

def delE6 (E : Env) (ν h sz n : Nat) (ys : List AV) : Env :=
  upd (upd (upd (upd (upd (upd E 27 (.sl (.fam ν h 0) sz ys)) 28 (.sl (.fam ν h 0) sz ys)) 29 (.int .i64 ys.length)) 30 (.int .i64 n)) 31 (.sl (.fam ν h 0) sz (List.replicate (n - ys.length) .junk))) 0 (.sl (.fam ν (h + 1) 0) sz ys)

theorem zero_cells {P : Program} {e : TypeId} {z : AV} {sz : Nat} (hz : zeroOf P e = some z) (hzl : z.cells.length = sz) (hok : okCells z = true) (hpos : 0 < sz) (w : World) (q : Nat) :
    ∃ zv, (zeroValue e).run P w = .ok zv w ∧ (Builtin.zeroCells zv.cells q).toList.length = q * sz ∧ ∀ v ∈ (Builtin.zeroCells zv.cells q).toList, v.oneCell' = true := by
  obtain ⟨zv, hzr, hzv, _⟩ := run_zero hz w
  obtain ⟨h1, h2⟩ := cells_rel (relV_avOf ⟨⟨fun _ => none, fun _ => .other, fun _ => none, 0⟩, fun _ => 0, w⟩ _ zv z (Nat.le_refl _) hzv)
  have hzs : zv.cells.size = sz := by omega
  refine ⟨zv, hzr, by rw [Array.length_toList, zeroCells_size, hzs], fun v hv => ?_⟩
  obtain ⟨i, hi, rfl⟩ := List.mem_iff_getElem.1 hv
  have hk : i % sz < sz := Nat.mod_lt _ hpos
  have h3 : (Builtin.zeroCells zv.cells q).toList[i] = zv.cells.getD (i % sz) undef := by
    simp [Builtin.zeroCells, hzs, Array.getD_eq_getD_getElem?]
    rw [getElem!_pos zv.cells (i % sz) (by omega), Array.getElem?_eq_getElem (by omega)]; rfl
  rw [h3]
  have := h2 (i % sz) (by omega)
  refine this.oneCell ?_
  simp only [okCells, List.all_eq_true] at hok
  exact hok _ (List.getElem_mem _)

theorem del_clear {P : Program} {t : TypeId} {M : Meta} {sz lim : Nat} (hT : ListType P t sz lim) {ν h n m b off : Nat} {ys : List AV} {E : Env} {γ : Gh} {st : St} {w : World} {a : Act} (hS : RelS γ st w) (hE : RelE γ st w 33 E a)
    (h0 : E 0 = .sl (.fam ν h 0) sz ys) (h7 : E 7 = .int .i64 n) (hv0 : a.tmps.getD 0 undef = .slice (some ⟨b, off, none⟩) ys.length m) (hg : st.gens ν = h) (hyn : ys.length < n) (hnm : n ≤ m) {K : Act → World → Prop} {Q : Exit → Act → World → Prop}
    (hK : ∀ w' a', Step γ st w γ { st with gens := upd st.gens ν (h + 1) } w' (fun _ => True) → RelE γ { st with gens := upd st.gens ν (h + 1) } w' 33 (delE6 E ν h sz n ys) a' → K a' w') :
    (delE t M).wp P (Exit.then K Q) a w := by
  obtain ⟨e, z, hu, hel, hsz, hlm, hz, hpos, hzl, hzo⟩ := hT.ex
  obtain ⟨zv, hzr, hzlen, hone⟩ := zero_cells hz hzl hzo hpos w (n - ys.length)
  have hr0 : RelV ⟨γ, st.gens, w⟩ (.sl (.fam ν h 0) sz ys) (.slice (some ⟨b, off, none⟩) ys.length m) := by
    have := hE.rel 0
    rwa [h0, hv0] at this
  have hv7 : a.tmps.getD 7 undef = .int .i64 n := by
    have := hE.rel 7
    rw [h7] at this
    generalize a.tmps.getD 7 undef = u at this
    cases this; rfl
  -- the row's facts
  obtain ⟨base, vals, hf, ho, hb, hw, hroom, hfr, hc, hr, ht, hoff⟩ : ∃ (base : Nat) (vals : Nat → Value), γ.fam ν = some (b, base) ∧ γ.owner b = .fam ν ∧ b < w.heap.size ∧ Wf sz ys ∧ (∀ i, i < m * sz → (w.cell? ⟨b, off + i, none⟩).isSome = true) ∧
      (∀ i, i < m * sz → w.frozen? ⟨b, off + i, none⟩ = false) ∧ (∀ i, i < (flat ys).length → w.cell? ⟨b, off + i, none⟩ = some (vals i)) ∧ (∀ i (h : i < (flat ys).length), RelV ⟨γ, st.gens, w⟩ (flat ys)[i] (vals i)) ∧ ν < γ.top ∧ off = base + 0 * sz := by
    generalize hN : ys.length = N at hr0
    cases hr0 with
    | slstale _ _ _ _ _ _ _ h1 => exact absurd h1 (by show ¬ h < st.gens ν; omega)
    | slfam0 => omega
    | slfam _ _ _ _ _ _ base _ vals h1 h2 h3 h4 h5 h6 h7 h8 h9 h10 h11 => exact ⟨base, vals, h2, h3, h4, h5, h7, h8, h9, h10, h11, rfl⟩
  refine wp_region ?_
  show wpOps P _ _ [0, 1, 2, 3, 4, 5] a w
  have hs0 := hE.size
  rw [wpOps_cons]
  refine wpOp_value (o := O (M 6 0) (some 27) (.move (.tmp 0))) (u := .slice (some ⟨b, off, none⟩) ys.length m) (w' := w) rfl rfl (by simp only [O, execOp, Act.eval]; rw [hv0]; rfl) ?_
  have E1 := put_rel hE hr0 (dst := some 27) (by simp)
  have A0 := (put_get_ne (a := a) (d := 27) (v := .slice (some ⟨b, off, none⟩) ys.length m) (k := 0) (by decide)).trans hv0
  have A7 := (put_get_ne (a := a) (d := 27) (v := .slice (some ⟨b, off, none⟩) ys.length m) (k := 7) (by decide)).trans hv7
  have A27 := put_get (v := .slice (some ⟨b, off, none⟩) ys.length m) hs0 (d := 27) (by decide)
  rw [show (O (M 6 0) (some 27) (Op.move (.tmp 0))).dst = some 27 from rfl]
  generalize a.put (some 27) (.slice (some ⟨b, off, none⟩) ys.length m) = a1 at *
  rw [wpOps_cons]
  refine wpOp_value (o := O (M 6 1) (some 28) (.move (.tmp 0))) (u := .slice (some ⟨b, off, none⟩) ys.length m) (w' := w) rfl rfl (by simp only [O, execOp, Act.eval]; rw [A0]; rfl) ?_
  have E2 := put_rel E1 hr0 (dst := some 28) (by simp)
  have B0 := (put_get_ne (a := a1) (d := 28) (v := .slice (some ⟨b, off, none⟩) ys.length m) (k := 0) (by decide)).trans A0
  have B7 := (put_get_ne (a := a1) (d := 28) (v := .slice (some ⟨b, off, none⟩) ys.length m) (k := 7) (by decide)).trans A7
  have B27 := (put_get_ne (a := a1) (d := 28) (v := .slice (some ⟨b, off, none⟩) ys.length m) (k := 27) (by decide)).trans A27
  have B28 := put_get (v := .slice (some ⟨b, off, none⟩) ys.length m) E1.size (d := 28) (by decide)
  rw [show (O (M 6 1) (some 28) (Op.move (.tmp 0))).dst = some 28 from rfl]
  generalize a1.put (some 28) (.slice (some ⟨b, off, none⟩) ys.length m) = a2 at *
  rw [wpOps_cons]
  refine wpOp_value (o := O (M 6 2) (some 29) (lenOp t (.tmp 28))) (u := .int .i64 ys.length) (w' := w) rfl rfl ?_ ?_
  · have : a2.eval (.tmp 28) = .slice (some ⟨b, off, none⟩) ys.length m := B28
    simp only [O, lenOp, execOp, resolve, Sem.run_bind, Sem.run_pure, Result.andThen_ok, invoke]
    simp [this, builtin, Builtin.len_, run_und hu, goInt]
  have E3 := put_rel E2 (.int .i64 (ys.length : Int)) (dst := some 29) (by simp)
  have C0 := (put_get_ne (a := a2) (d := 29) (v := .int .i64 ys.length) (k := 0) (by decide)).trans B0
  have C7 := (put_get_ne (a := a2) (d := 29) (v := .int .i64 ys.length) (k := 7) (by decide)).trans B7
  have C27 := (put_get_ne (a := a2) (d := 29) (v := .int .i64 ys.length) (k := 27) (by decide)).trans B27
  have C29 := put_get (v := .int .i64 ys.length) E2.size (d := 29) (by decide)
  rw [show (O (M 6 2) (some 29) (lenOp t (.tmp 28))).dst = some 29 from rfl]
  generalize a2.put (some 29) (.int .i64 ys.length) = a3 at *
  rw [wpOps_cons]
  refine wpOp_value (o := O (M 6 3) (some 30) (.move (.tmp 7))) (u := .int .i64 n) (w' := w) rfl rfl (by simp only [O, execOp, Act.eval]; rw [C7]; rfl) ?_
  have E4 := put_rel E3 (.int .i64 (n : Int)) (dst := some 30) (by simp)
  have D0 := (put_get_ne (a := a3) (d := 30) (v := .int .i64 n) (k := 0) (by decide)).trans C0
  have D27 := (put_get_ne (a := a3) (d := 30) (v := .int .i64 n) (k := 27) (by decide)).trans C27
  have D29 := (put_get_ne (a := a3) (d := 30) (v := .int .i64 n) (k := 29) (by decide)).trans C29
  have D30 := put_get (v := .int .i64 n) E3.size (d := 30) (by decide)
  rw [show (O (M 6 3) (some 30) (Op.move (.tmp 7))).dst = some 30 from rfl]
  generalize a3.put (some 30) (.int .i64 n) = a4 at *
  rw [wpOps_cons]
  have hml : ¬ m = ys.length := by omega
  refine wpOp_value (o := O (M 6 4) (some 31) (.slice t (.tmp 27) (some (.tmp 29)) (some (.tmp 30)) none)) (u := .slice (some ⟨b, off + ys.length * sz, none⟩) (n - ys.length) (m - ys.length)) (w' := w) rfl rfl ?_ ?_
  · simp only [O, execOp, Act.eval, Option.map]
    rw [D27, D29, D30]
    have := run_slice (P := P) (X := ⟨γ, st.gens, w⟩) w hu hsz (a := ⟨b, off, none⟩) (n := ys.length) (m := m) (l := ys.length) (h := n) (lo := some (.int .i64 ys.length)) (hi := some (.int .i64 n)) (vlo := some (.int .i64 ys.length)) (vhi := some (.int .i64 n)) (.int _ _) (.int _ _) (natOf_cast .i64 _) (natOf_cast .i64 _) (by omega) hnm
    simp only [Sem.run_bind]
    rw [this, if_neg hml, add_at]; rfl
  have F0 := (put_get_ne (a := a4) (d := 31) (v := .slice (some ⟨b, off + ys.length * sz, none⟩) (n - ys.length) (m - ys.length)) (k := 0) (by decide)).trans D0
  have F31 := put_get (v := .slice (some ⟨b, off + ys.length * sz, none⟩) (n - ys.length) (m - ys.length)) E4.size (d := 31) (by decide)
  have hsz4 := E4.size
  rw [show (O (M 6 4) (some 31) (Op.slice t (.tmp 27) (some (.tmp 29)) (some (.tmp 30)) none)).dst = some 31 from rfl]
  -- the rest is cleared
  have hyl : ys.length * sz + (n - ys.length) * sz = n * sz := by rw [← Nat.add_mul]; congr 1; omega
  have hnsz : n * sz ≤ m * sz := Nat.mul_le_mul_right _ hnm
  have hfl := flat_length hw
  have hst := run_storeCells P b (Builtin.zeroCells zv.cells (n - ys.length)).toList w (off + ys.length * sz) 0 hone (fun q hq => by
    rw [hzlen] at hq
    have h1 := hroom (ys.length * sz + q) (by omega)
    have h2 := hfr (ys.length * sz + q) (by omega)
    rw [Nat.add_zero, Nat.add_assoc]
    exact ⟨h1, h2⟩)
  rw [Nat.add_zero] at hst
  have hsize := setCells_size b (Builtin.zeroCells zv.cells (n - ys.length)).toList w (off + ys.length * sz)
  have hoth := fun b' h => setCells_other b (Builtin.zeroCells zv.cells (n - ys.length)).toList w (off + ys.length * sz) b' h
  have hfrz := fun ad => setCells_frozen b (Builtin.zeroCells zv.cells (n - ys.length)).toList w (off + ys.length * sz) ad
  have hcoff := setCells_cell_off b (Builtin.zeroCells zv.cells (n - ys.length)).toList w (off + ys.length * sz)
  have hcin := setCells_cell_in b (Builtin.zeroCells zv.cells (n - ys.length)).toList w (off + ys.length * sz)
  have hst6 := setCells_still b (Builtin.zeroCells zv.cells (n - ys.length)).toList w (off + ys.length * sz)
  generalize setCells w b (off + ys.length * sz) (Builtin.zeroCells zv.cells (n - ys.length)).toList = w6 at *
  have hstep := step_write (w' := w6) hS (τ := ν) hb ho hsize hoth hst6
  rw [hg] at hstep
  have hv6 : RelV ⟨γ, upd st.gens ν (h + 1), w6⟩ (.sl (.fam ν (h + 1) 0) sz ys) (.slice (some ⟨b, off, none⟩) ys.length m) := by
    have := RelV.slfam (X := ⟨γ, upd st.gens ν (h + 1), w6⟩) ν (h + 1) 0 sz ys b base m vals (by simp [upd]) hf ho (by show b < w6.heap.size; rw [hsize]; exact hb) hw (by omega)
      (fun q hq => by
        rw [← hoff]
        by_cases h1 : ys.length * sz ≤ q ∧ q < ys.length * sz + (Builtin.zeroCells zv.cells (n - ys.length)).toList.length
        · have := hcin (q - ys.length * sz) (fun k hk => by
            rw [hzlen] at hk
            rw [Nat.add_assoc]; exact hroom _ (by omega)) (by omega)
          rw [show off + ys.length * sz + (q - ys.length * sz) = off + q by omega] at this
          rw [this, List.getElem?_eq_getElem (by omega)]; rfl
        · rw [hcoff _ (by omega)]; exact hroom q hq)
      (fun q hq => by rw [← hoff, hfrz]; exact hfr q hq)
      (fun q hq => by rw [← hoff, hcoff _ (by omega)]; exact hc q hq)
      (fun q hq => (hr q hq).mono hstep.le) ht
    rwa [← hoff] at this
  have E5 : RelE γ { st with gens := upd st.gens ν (h + 1) } w6 33 _ _ := put_rel (E4.mono hstep.le) (v := .sl (.fam ν h 0) sz (List.replicate (n - ys.length) .junk)) (u := .slice (some ⟨b, off + ys.length * sz, none⟩) (n - ys.length) (m - ys.length)) (by
      have := RelV.slstale (X := ⟨γ, upd st.gens ν (h + 1), w6⟩) ν h 0 sz (List.replicate (n - ys.length) .junk) (some ⟨b, off + ys.length * sz, none⟩) (m - ys.length) (by simp [upd]) (by simp; omega) (fun _ => ⟨_, _, rfl⟩) ht
      simpa using this) (dst := some 31) (by simp)
  generalize a4.put (some 31) (.slice (some ⟨b, off + ys.length * sz, none⟩) (n - ys.length) (m - ys.length)) = a5 at *
  rw [wpOps_cons]
  refine wpOp_value (o := O (M 6 5) none (.call { callee := .builtin .clear, args := #[.tmp 31], argTypes := #[t] })) (u := .tuple #[]) (w' := w6) rfl rfl ?_ ?_
  · have : a5.eval (.tmp 31) = .slice (some ⟨b, off + ys.length * sz, none⟩) (n - ys.length) (m - ys.length) := F31
    obtain ⟨q, hq⟩ : ∃ q, n - ys.length = q + 1 := ⟨n - ys.length - 1, by omega⟩
    simp only [O, execOp, resolve, Sem.run_bind, Sem.run_pure, Result.andThen_ok, invoke]
    rw [hq] at this hst
    simp [this, builtin, Builtin.clear_, run_und hu, hzr, hst]
  · refine hK w6 _ hstep (E5.retell (t := 0) (v := .sl (.fam ν (h + 1) 0) sz ys) ?_)
    rw [F0]; exact hv6

theorem delete_ok {P : Program} (hm : P.follows .mixedOrders = true) {f : Nat} {fn : Func} (hf : P.funcs[f]? = some fn) (hnm : (fn.name == "runtime.NumGoroutine") = false) {t it : TypeId} {M : Meta} (hb : fn.body = some (deleteBody t it M)) (hnt : fn.ntmps = 33)
    (hres : fn.results = #[.tmp 6]) (hit : P.underlying it = some (.int .i64)) {sz lim : Nat} (hT : ListType P t sz lim) (hB : Region.lexTailB .any (delD t M).toArray 6 = true) {τ g o : Nat} {xs : List AV} {i j : Nat} {st : St} (hg : st.gens τ = g)
    (hij : i < j) (hj : j ≤ xs.length) (hlim : xs.length ≤ lim) :
    CallOk P f [.sl (.fam τ g o) sz xs, .int .i64 i, .int .i64 j] st (.sl (.fam st.next (st.gens st.next) 0) sz (xs.take i ++ xs.drop j)) { st with next := st.next + 1, gens := upd st.gens τ (g + 1) } := by
  obtain ⟨e, z, hu, hel, hsz, hlm, hz, hpos, hzl, hzo⟩ := hT.ex
  refine ⟨⟨fn, hf, hnm, by simp [hb]⟩, fun γ w us hS hl hr => ?_⟩
  refine calls_of_wp hf hb ?_
  have hE : RelE γ st w 33 (env0 [.sl (.fam τ g o) sz xs, .int .i64 i, .int .i64 j]) { tmps := us ++ Array.replicate (fn.ntmps - us.size) undef, defers := [] } := by
    have hus : us.size = 3 := hl.symm
    refine ⟨rfl, by simp [hnt, hus], fun t => ?_⟩
    simp only [env0]
    by_cases ht : t < 3
    · rw [List.getElem?_eq_getElem (by simpa using ht), Option.getD_some, Array.getD_eq_getD_getElem?, Array.getElem?_append_left (by omega)]
      have := hr t (by simpa using ht)
      rwa [Array.getD_eq_getD_getElem?] at this
    · rw [List.getElem?_eq_none (by simpa using ht), Option.getD_none, Array.getD_eq_getD_getElem?, Array.getElem?_append_right (by omega), Array.getElem?_replicate]
      split <;> exact .junk
  have hr0 : RelV ⟨γ, st.gens, w⟩ (.sl (.fam τ g o) sz xs) (us.getD 0 undef) := hr 0 (by simp)
  have hold := relV_old (X := ⟨γ, st.gens, w⟩) (fun id b hb => by show id < γ.top; rw [hS.top]; exact (hS.inb id b hb).2) hr0
  rw [show (⟨γ, st.gens, w⟩ : Ctx).γ.top = st.next from hS.top] at hold
  obtain ⟨hτ, holdx⟩ : τ < st.next ∧ ∀ x ∈ flat xs, Old st.next st.gens x := by
    cases hold with
    | slfam _ _ _ _ _ h1 h2 h3 => exact ⟨h1, h3 hg⟩
  generalize ({ tmps := us ++ Array.replicate (fn.ntmps - us.size) undef, defers := [] } : Act) = a at *
  have hyl : (xs.take i ++ xs.drop j).length = i + (xs.length - j) := by simp; omega
  refine del_first hm hu hsz hit hij hj hS hE (fun γ1 w1 a1 hst1 hE1 => ?_)
  refine wp_seq (del_move hm hT hB hij hj hlim hst1.rel hE1 hg (fun γ2 w2 a2 b off m hst2 hE2 hv2 hm2 => ?_))
  have hne : st.next + 13 ≠ τ := by omega
  refine wp_seq (del_clear (ν := st.next + 13) (h := upd st.gens τ (g + 1) (st.next + 13)) (ys := xs.take i ++ xs.drop j) (n := xs.length) (m := m) hT hst2.rel hE2 (by simp [delE5, upd]) (by simp [delE5, delE4, upd]) hv2 rfl (by omega) hm2 (fun w3 a3 hst3 hE3 => ?_))
  refine code_sound hm noCall_ok (nt := 33) (k := 1) (delF M) (.seq (.reg 2 [⟨some 32, none, .mv (.t 0), 0, 0⟩, ⟨some 6, none, .mv (.t 32), 0, 0⟩]) .ret) (by simp [delF, O, compC, compIs, compI, compOp, opdOf, dstOk]) γ2 _ w3 _ a3 .ret
    _ _ hst3.rel hE3 rfl _ (fun γ4 w4 a4 hst4 hE4 => ?_)
  have h12 := hst1.trans hst2 (M := fun id => id < st.next) (fun _ h => h) (fun id h => by show id < st.next + 13; omega)
  have h13 := h12.trans hst3 (M := fun id => id < st.next) (fun _ h => h) (fun id h => trivial)
  have h14 := h13.trans hst4 (M := fun id => id < st.next) (fun _ h => h) (fun id h => by show id < st.next + 13 + 1; omega)
  have hg4 : ∀ τ', τ' < st.next → (upd (upd st.gens τ (g + 1)) (st.next + 13) (upd st.gens τ (g + 1) (st.next + 13) + 1)) τ' = upd st.gens τ (g + 1) τ' := fun τ' h => upd_ne _ _ _ _ (by omega)
  have hg2 : ∀ τ', τ' < st.next → ((upd (upd st.gens τ (g + 1)) (st.next + 13) (upd st.gens τ (g + 1) (st.next + 13) + 1)) τ' = st.gens τ' → upd st.gens τ (g + 1) τ' = st.gens τ') ∧
      (st.gens τ' < (upd (upd st.gens τ (g + 1)) (st.next + 13) (upd st.gens τ (g + 1) (st.next + 13) + 1)) τ' → st.gens τ' < upd st.gens τ (g + 1) τ') := fun τ' h => by
    rw [hg4 τ' h]
    exact ⟨id, id⟩
  have told := h14.anew hS [st.next + 13] (by simp) (upd st.gens τ (g + 1)) hg2 st.boxes (fun id => by
      by_cases hid : id < st.next
      · exact .inl ⟨hid, rfl, rfl⟩
      · exact .inr (.inl ⟨by omega, rfl⟩)) (fun id _ => rfl)
  have hgens : (fun τ' => if τ' < st.next then upd st.gens τ (g + 1) τ' else st.gens τ') = upd st.gens τ (g + 1) := funext fun τ' => by
    split
    · rfl
    · rw [upd_ne _ _ _ _ (by omega)]
  rw [hgens] at told
  refine ⟨hE4.defers, _, results_tmp hres _ _ _, _, _, rfl, told, ?_⟩
  have hv := hE4.rel 6
  have hren : Ren st.next st.gens (upd (upd st.gens τ (g + 1)) (st.next + 13) (upd st.gens τ (g + 1) (st.next + 13) + 1)) (upd st.gens τ (g + 1)) [st.next + 13]
      (.sl (.fam (st.next + 13) ((upd (upd st.gens τ (g + 1)) (st.next + 13) (upd st.gens τ (g + 1) (st.next + 13) + 1)) (st.next + 13)) 0) sz (xs.take i ++ xs.drop j)) (.sl (.fam (st.next + 0) (st.gens (st.next + 0)) 0) sz (xs.take i ++ xs.drop j)) :=
    .keep (st.next + 13) 0 0 sz _ _ rfl (by omega) rfl rfl id (fun q hq _ => .old _ (holdx _ (by
      have := List.getElem_mem hq
      generalize (flat (xs.take i ++ xs.drop j))[q] = y at this
      rw [flat_append] at this
      simp only [flat, List.mem_append, List.mem_flatMap] at this ⊢
      rcases this with ⟨x, hx, hx'⟩ | ⟨x, hx, hx'⟩
      · exact ⟨x, List.mem_of_mem_take hx, hx'⟩
      · exact ⟨x, List.mem_of_mem_drop hx, hx'⟩)))
  have hv2 := hren.rel (γ := γ4) (w := w4) (by simp) (fun τ' h => h14.le.gens τ') hg2 (u := a4.tmps.getD 6 undef) (by
    rw [upd_eq]
    exact hv)
  rw [hgens] at hv2
  exact hv2

end Go.Ev
