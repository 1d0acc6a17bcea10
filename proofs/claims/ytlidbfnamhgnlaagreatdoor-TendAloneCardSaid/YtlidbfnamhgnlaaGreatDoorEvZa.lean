/- slices.Insert at a list's end: what is inserted is appended. -/
import Derived.Test.YtlidbfnamhgnlaaGreatDoorEvZ
namespace Go.Ev
open Go

def insA (t : TypeId) (M : Meta) : Code := .region 1 #[O (M 1 0) (some 10) (.move (.tmp 0)), O (M 1 1) (some 11) (.move (.tmp 1)), O (M 1 2) (some 12) (.slice t (.tmp 10) (some (.tmp 11)) none none)] false
def insB (t : TypeId) (M : Meta) : Code := .region 2 #[O (M 2 0) (some 13) (.move (.tmp 2)), O (M 2 1) (some 14) (lenOp t (.tmp 13)), O (M 2 2) (some 7) (.assign (.tmp 14))] false
def insC (it : TypeId) (M : Meta) : Code :=
  (Code.region 3 #[O (M 3 0) (some 15) (.move (.tmp 7)), O (M 3 1) (some 16) (.binOp .eql it (.tmp 15) (.const (.int .i64 0)) it)] false).seq
    (.cond (.tmp 16) ((Code.region 4 #[O (M 4 0) (some 17) (.move (.tmp 0)), O (M 4 1) (some 6) (.assign (.tmp 17))] false).seq .ret) .skip)
def insD (t : TypeId) (M : Meta) : Code := .region 5 #[O (M 5 0) (some 18) (.move (.tmp 0)), O (M 5 1) (some 19) (lenOp t (.tmp 18)), O (M 5 2) (some 8) (.assign (.tmp 19))] false
def insE (t it : TypeId) (M : Meta) : Code :=
  (Code.region 6 #[O (M 6 0) (some 20) (.move (.tmp 1)), O (M 6 1) (some 21) (.move (.tmp 8)), O (M 6 2) (some 22) (.binOp .eql it (.tmp 20) (.tmp 21) it)] false).seq
    (.cond (.tmp 22) ((Code.region 7 #[O (M 7 0) (some 23) (.move (.tmp 0)), O (M 7 1) (some 24) (.move (.tmp 2)), O (M 7 2) (some 25) (.call { callee := .builtin .append, args := #[.tmp 23, .tmp 24], argTypes := #[t, t] }),
      O (M 7 3) (some 6) (.assign (.tmp 25))] false).seq .ret) .skip)

/-- The text of slices.Insert at any list's type, as far as it goes when the place is the end. -/
def insertBody (t it : TypeId) (M : Meta) (rest : Code) : Code :=
  (Code.region 0 #[O (M 0 0) (some 6) (.assign (.const (.slice none 0 0)))] false).seq ((insA t M).seq ((insB t M).seq ((insC it M).seq ((insD t M).seq ((insE t it M).seq rest)))))

def restOf : Code → Code
  | .seq _ (.seq _ (.seq _ (.seq _ (.seq _ (.seq _ r))))) => r
  | _ => .skip

/-- The slots as a call's begin finds them. -/
theorem relE_enter {γ : Gh} {st : St} {w : World} {args : List AV} {us : Array Value} {nt : Nat} (hl : args.length = us.size) (hle : args.length ≤ nt) (hr : ∀ i (h : i < args.length), RelV ⟨γ, st.gens, w⟩ args[i] (us.getD i undef)) :
    RelE γ st w nt (env0 args) { tmps := us ++ Array.replicate (nt - us.size) undef, defers := [] } := by
  refine ⟨rfl, by simp; omega, fun t => ?_⟩
  simp only [env0]
  by_cases ht : t < args.length
  · rw [List.getElem?_eq_getElem ht, Option.getD_some, Array.getD_eq_getD_getElem?, Array.getElem?_append_left (by omega)]
    have := hr t ht
    rwa [Array.getD_eq_getD_getElem?] at this
  · rw [List.getElem?_eq_none (by omega), Option.getD_none, Array.getD_eq_getD_getElem?, Array.getElem?_append_right (by omega), Array.getElem?_replicate]
    split <;> exact .junk

def insE2 (c : Cap) (s n : Nat) (xs : List AV) (y : AV) : Env :=
  upd (upd (upd (upd (env0 [.sl c s xs, .int .i64 n, y]) 6 (.sl .nil 0 [])) 10 (.sl c s xs)) 11 (.int .i64 n)) 12 (.sl (c.shift n) s [])

theorem insert_end_ok {P : Program} (hm : P.follows .mixedOrders = true) {f : Nat} {fn : Func} (hf : P.funcs[f]? = some fn) (hnm : (fn.name == "runtime.NumGoroutine") = false) {t it : TypeId} {M : Meta} {rest : Code} (hb : fn.body = some (insertBody t it M rest)) (hnt : fn.ntmps = 95)
    (hres : fn.results = #[.tmp 6]) (hit : P.underlying it = some (.int .i64)) {sz lim : Nat} (hT : ListType P t sz lim) {c c' : Cap} {s s' : Nat} {xs ys : List AV} {st : St} (hc : appOk st.gens c = true) (hs : s = sz ∨ c = .nil) (hc' : okc st.gens c' = true) (hs' : s' = sz ∨ ys = [])
    (hy : ys ≠ []) (hlim : xs.length + ys.length ≤ lim) :
    ∃ st1, CallOk P f [.sl c s xs, .int .i64 xs.length, .sl c' s' ys] st (.sl (.fam (st.next + 17) (appGens st.gens c (st.next + 17)) 0) sz (xs ++ ys)) st1 ∧ st1 = ⟨st.next + 19, st.boxes, st.iters, appGens st.gens c⟩ := by
  obtain ⟨e, z, hu, hel, hsz, hlm, hz, hpos, hzl, hzo⟩ := hT.ex
  refine ⟨_, ⟨⟨fn, hf, hnm, by simp [hb]⟩, fun γ w us hS hl hr => ?_⟩, rfl⟩
  refine calls_of_wp hf hb ?_
  have hE : RelE γ st w 95 _ _ := relE_enter hl (by simp) hr
  rw [hnt]
  generalize ({ tmps := us ++ Array.replicate (95 - us.size) undef, defers := [] } : Act) = a at *
  have hys : 0 < ys.length := List.length_pos_iff.2 hy
  refine wp_seq (code_sound hm noCall_ok (nt := 95) (k := 1) _ (.reg 1 [⟨some 6, none, .mv (.c (.sl .nil 0 [])), 0, 0⟩]) (by simp [O, compC, compIs, compI, compOp, opdOf, avOf, dstOk]) γ st w _ a .normal
    (upd (env0 [.sl c s xs, .int .i64 xs.length, .sl c' s' ys]) 6 (.sl .nil 0 [])) { st with next := st.next + 1 } hS hE rfl _ (fun γ1 w1 a1 hst1 hE1 => ?_))
  refine wp_seq (code_sound hm noCall_ok (nt := 95) (k := 1) _ (.reg 3 [⟨some 10, none, .mv (.t 0), 0, 0⟩, ⟨some 11, none, .mv (.t 1), 0, 0⟩, ⟨some 12, none, .slice 2 sz (.t 10) (some (.t 11)) none none, 0, 0⟩])
    (by simp [insA, O, compC, compIs, compI, compOp, opdOf, opdO, dstOk, hu, hsz]) γ1 _ w1 _ a1 .normal (insE2 c s xs.length xs (.sl c' s' ys)) { st with next := st.next + 4 } hst1.rel hE1 ?_ _ (fun γ2 w2 a2 hst2 hE2 => ?_))
  · have hs3 : s = sz ∨ c = Cap.nil ∨ c = Cap.ro ∧ xs = [] := hs.elim .inl (fun h => .inr (.inl h))
    simp [evC, evIs, gv, evOp, evSlice, bnd, natOf_cast, hoist, putD, Opd.ev, upd, env0, insE2, hs3]
  generalize he2 : insE2 c s xs.length xs (.sl c' s' ys) = e2 at hE2
  refine wp_seq (code_sound hm noCall_ok (nt := 95) (k := 1) _ (.reg 3 [⟨some 13, none, .mv (.t 2), 0, 0⟩, ⟨some 14, none, .len false (.t 13), 0, 0⟩, ⟨some 7, none, .mv (.t 14), 0, 0⟩])
    (by simp [insB, O, lenOp, compC, compIs, compI, compOp, opdOf, dstOk, hu]) γ2 _ w2 _ a2 .normal (upd (upd (upd e2 13 (.sl c' s' ys)) 14 (.int .i64 ys.length)) 7 (.int .i64 ys.length)) { st with next := st.next + 7 } hst2.rel hE2 ?_ _ (fun γ3 w3 a3 hst3 hE3 => ?_))
  · subst he2; simp [evC, evIs, gv, evOp, evLen, hoist, putD, Opd.ev, upd, env0, insE2]
  generalize he3 : upd (upd (upd e2 13 (.sl c' s' ys)) 14 (.int .i64 ys.length)) 7 (.int .i64 ys.length) = e3 at hE3
  have hy0 : ((ys.length : Int) == 0) = false := by simp; omega
  refine wp_seq (code_sound hm noCall_ok (nt := 95) (k := 1) _ (.seq (.reg 2 [⟨some 15, none, .mv (.t 7), 0, 0⟩, ⟨some 16, none, .bin .eql (.t 15) (.c (.int .i64 0)), 0, 0⟩]) (.cond (.t 16) (.seq (.reg 2 [⟨some 17, none, .mv (.t 0), 0, 0⟩, ⟨some 6, none, .mv (.t 17), 0, 0⟩]) .ret) .skip))
    (by simp [insC, O, compC, compIs, compI, compOp, opdOf, avOf, dstOk, binOfT, eqOfT, hit]) γ3 _ w3 _ a3 .normal (upd (upd e3 15 (.int .i64 ys.length)) 16 (.bool false)) { st with next := st.next + 9 } hst3.rel hE3 ?_ _ (fun γ4 w4 a4 hst4 hE4 => ?_))
  · subst he3; subst he2; simp [evC, evIs, gv, evOp, evBin, binI, hoist, putD, Opd.ev, upd, env0, insE2, hy0]
  generalize he4 : upd (upd e3 15 (.int .i64 ys.length)) 16 (.bool false) = e4 at hE4
  refine wp_seq (code_sound hm noCall_ok (nt := 95) (k := 1) _ (.reg 3 [⟨some 18, none, .mv (.t 0), 0, 0⟩, ⟨some 19, none, .len false (.t 18), 0, 0⟩, ⟨some 8, none, .mv (.t 19), 0, 0⟩])
    (by simp [insD, O, lenOp, compC, compIs, compI, compOp, opdOf, dstOk, hu]) γ4 _ w4 _ a4 .normal (upd (upd (upd e4 18 (.sl c s xs)) 19 (.int .i64 xs.length)) 8 (.int .i64 xs.length)) { st with next := st.next + 12 } hst4.rel hE4 ?_ _ (fun γ5 w5 a5 hst5 hE5 => ?_))
  · subst he4; subst he3; subst he2; simp [evC, evIs, gv, evOp, evLen, hoist, putD, Opd.ev, upd, env0, insE2]
  generalize he5 : upd (upd (upd e4 18 (.sl c s xs)) 19 (.int .i64 xs.length)) 8 (.int .i64 xs.length) = e5 at hE5
  refine wp_seq (code_sound hm noCall_ok (nt := 95) (k := 1) _ (.seq (.reg 3 [⟨some 20, none, .mv (.t 1), 0, 0⟩, ⟨some 21, none, .mv (.t 8), 0, 0⟩, ⟨some 22, none, .bin .eql (.t 20) (.t 21), 0, 0⟩])
      (.cond (.t 22) (.seq (.reg 4 [⟨some 23, none, .mv (.t 0), 0, 0⟩, ⟨some 24, none, .mv (.t 2), 0, 0⟩, ⟨some 25, none, .append 2 sz lim (.t 23) (.t 24), 0, 0⟩, ⟨some 6, none, .mv (.t 25), 0, 0⟩]) .ret) .skip))
    (by simp [insE, O, compC, compIs, compI, compOp, opdOf, opdsOf, dstOk, binOfT, eqOfT, hit, hu, hel, hsz, hlm, hz, hpos, hzl]) γ5 _ w5 _ a5 .ret
    (upd (upd (upd (upd (upd (upd (upd e5 20 (.int .i64 xs.length)) 21 (.int .i64 xs.length)) 22 (.bool true)) 23 (.sl c s xs)) 24 (.sl c' s' ys)) 25 (.sl (.fam (st.next + 17) (appGens st.gens c (st.next + 17)) 0) sz (xs ++ ys))) 6 (.sl (.fam (st.next + 17) (appGens st.gens c (st.next + 17)) 0) sz (xs ++ ys)))
    ⟨st.next + 19, st.boxes, st.iters, appGens st.gens c⟩ hst5.rel hE5 ?_ _ (fun γ6 w6 a6 hst6 hE6 => ?_))
  · subst he5; subst he4; subst he3; subst he2
    simp [evC, evIs, gv, evOp, evBin, binI, evLen, hoist, putD, Opd.ev, upd, env0, insE2, srcOf, hc, hc', hs, hs'.resolve_right hy, hlim]
  have k2 := hst1.trans hst2 (M := fun id => id < st.next) (fun _ h => h) (fun id h => by show id < st.next + 1; omega)
  have k3 := k2.trans hst3 (M := fun id => id < st.next) (fun _ h => h) (fun id h => by show id < st.next + 4; omega)
  have k4 := k3.trans hst4 (M := fun id => id < st.next) (fun _ h => h) (fun id h => by show id < st.next + 7; omega)
  have k5 := k4.trans hst5 (M := fun id => id < st.next) (fun _ h => h) (fun id h => by show id < st.next + 9; omega)
  have k6 := k5.trans hst6 (M := fun id => id < st.next) (fun _ h => h) (fun id h => by show id < st.next + 12; omega)
  have hv := hE6.rel 6
  rw [upd_eq] at hv
  exact ⟨hE6.defers, _, results_tmp hres _ _ _, _, _, rfl, k6, hv⟩
end Go.Ev
