/- slices.Clone: the one function whose text asks whether a list is nil. -/
import Derived.Test.YtlidbfnamhgnlaaGreatDoorEvX
namespace Go.Ev
open Go

def cloneTest (t bt : TypeId) (p1 p2 : String) : Code :=
  .region 1 #[{ dst := some 3, op := .move (.tmp 0), type := t, pos := p1, after := #[], guard := none },
    { dst := some 4, op := .binOp .eql t (.tmp 3) (.const (.slice none 0 0)) t, type := bt, pos := p2, after := #[{ on := 0, ground := .data }], guard := none }] false

def cloneFirst (t : TypeId) (p0 : String) : Code := .region 0 #[{ dst := some 2, op := .assign (.const (.slice none 0 0)), type := t, pos := p0, after := #[], guard := none }] false

def cloneNil (t : TypeId) (p : String) : Code := (Code.region 2 #[{ dst := some 2, op := .assign (.const (.slice none 0 0)), type := t, pos := p, after := #[], guard := none }] false).seq .ret

def cloneLast (t : TypeId) (p : String) (al : Array Edge) : Code :=
  (Code.region 3 #[{ dst := some 5, op := .buildSlice t 0 #[], type := t, pos := p, after := #[], guard := none },
    { dst := some 6, op := .move (.tmp 0), type := t, pos := p, after := #[], guard := none },
    { dst := some 7, op := .call { callee := .builtin .append, args := #[.tmp 5, .tmp 6], argTypes := #[t, t] }, type := t, pos := p, after := #[{ on := 0, ground := .data }, { on := 1, ground := .data }], guard := none },
    { dst := some 2, op := .assign (.tmp 7), type := t, pos := p, after := al, guard := none }] false).seq .ret

/-- The text of slices.Clone at any list's type. -/
def cloneBody (t bt : TypeId) (p0 p1 p2 p3 p4 : String) (al : Array Edge) : Code :=
  (cloneFirst t p0).seq (((cloneTest t bt p1 p2).seq (.cond (.tmp 4) (cloneNil t p3) .skip)).seq (cloneLast t p4 al))

theorem eq_nils {P : Program} {t el : TypeId} (d : Nat) (ht : P.underlying t = some (.slice el)) (a : Option Addr) (n m : Nat) (w : World) :
    (Op.equalIn (d + 1) t (.slice a n m) (.slice none 0 0)).run P w = .ok a.isNone w := by
  rw [Op.equalIn]
  cases a <;> simp only [Sem.run_bind, run_und ht, Result.andThen_ok, Sem.run_pure, Option.isNone]

theorem wpOp_value {P : Program} {ops : Array Oper} {i : Nat} {o : Oper} {a : Act} {w w' : World} {K : Act → World → Prop} {Q : Exit → Act → World → Prop} {u : Value} (ho : ops[i]? = some o) (hg : o.guard = none)
    (hrun : (execOp a.eval o).run P w = .ok (.value u) w') (h : K (a.put o.dst u) w') : wpOp P ops Q i K a w := by
  simp only [wpOp, ho]
  rw [if_pos (by simp [Region.wanted, hg])]
  left
  simp only [Oper.wp, hrun]
  rw [Oper.upon_value]; exact h

def noCall : Nat → List AV → St → Option (AV × St) := fun _ _ _ => none

theorem noCall_ok {P : Program} : ∀ f args st v st', noCall f args st = some (v, st') → CallOk P f args st v st' := fun _ _ _ _ _ h => by cases h

/-- What Clone's contract asks of a list's type. -/
structure ListType (P : Program) (t : TypeId) (sz lim : Nat) : Prop where
  ex : ∃ e z, P.underlying t = some (.slice e) ∧ elemOfSl P t = some e ∧ szOf P e = some sz ∧ limOf P e = some lim ∧ zeroOf P e = some z ∧ 0 < sz ∧ z.cells.length = sz ∧ okCells z = true

theorem clone_ok {P : Program} (hm : P.follows .mixedOrders = true) {f : Nat} {fn : Func} (hf : P.funcs[f]? = some fn) (hnm : (fn.name == "runtime.NumGoroutine") = false) {t bt : TypeId} {p0 p1 p2 p3 p4 : String} {al : Array Edge}
    (hb : fn.body = some (cloneBody t bt p0 p1 p2 p3 p4 al)) (hnt : fn.ntmps = 8) (hres : fn.results = #[.tmp 2]) {sz lim : Nat} (hT : ListType P t sz lim) {c : Cap} {s : Nat} {xs : List AV} {st : St} (hc : okc st.gens c = true)
    (hs : s = sz ∨ xs = []) (hlim : xs.length ≤ lim) : CallOk P f [.sl c s xs] st (.sl (.fam st.next (st.gens st.next) 0) sz xs) { st with next := st.next + 1 } := by
  obtain ⟨e, z, hu, hel, hsz, hlm, hz, hpos, hzl, _⟩ := hT.ex
  refine ⟨⟨fn, hf, hnm, by simp [hb]⟩, fun γ w us hS hl hr => ?_⟩
  refine calls_of_wp hf hb ?_
  obtain ⟨u0, hu0⟩ : ∃ u0, us = #[u0] := by
    have : us.size = 1 := hl.symm
    exact ⟨us[0], by apply Array.ext <;> simp [this]; intro i h1; have : i = 0 := by omega
                     subst this; rfl⟩
  subst hu0
  have hr0 : RelV ⟨γ, st.gens, w⟩ (.sl c s xs) u0 := by simpa using hr 0 (by simp)
  obtain ⟨a0, m0, rfl, hm0, hne0⟩ := sl_len hr0
  generalize hAct : ({ tmps := #[Value.slice a0 xs.length m0] ++ Array.replicate (fn.ntmps - #[Value.slice a0 xs.length m0].size) undef, defers := [] } : Act) = a
  have hE : RelE γ st w 8 (env0 [.sl c s xs]) a := by
    subst hAct
    refine ⟨rfl, by simp [hnt], fun i => ?_⟩
    cases i with
    | zero =>
      rw [Array.getD_eq_getD_getElem?, Array.getElem?_append_left (by simp)]
      simpa [env0] using hr0
    | succ i =>
      have : (#[Value.slice a0 xs.length m0] ++ Array.replicate (fn.ntmps - #[Value.slice a0 xs.length m0].size) undef).getD (i + 1) undef = undef := by
        rw [Array.getD_eq_getD_getElem?, Array.getElem?_append_right (by simp)]
        rw [Array.getElem?_replicate]; split <;> rfl
      rw [this]; simp [env0]; exact .junk
  clear hAct
  -- the result is told anew
  have finish : ∀ (γ1 : Gh) (st1 : St) (w1 : World) (a1 : Act) (v : AV) (e1 : Env) (ex : Exit), ex = .ret → Step γ st w γ1 st1 w1 (fun id => id < st.next) → RelE γ1 st1 w1 8 e1 a1 → Keeps st st1 →
      (∀ u, RelV ⟨γ1, st1.gens, w1⟩ (e1 2) u → ∃ τ, st.next ≤ τ ∧ RelV ⟨γ1, st1.gens, w1⟩ (.sl (.fam τ (st1.gens τ) 0) sz xs) u) → (∀ x ∈ flat xs, Old st.next st.gens x) →
      bodyPost P fn (fun e w' => ∃ u γ', e = .returned u ∧ Step γ st w γ' { st with next := st.next + 1 } w' (fun id => id < st.next) ∧ RelV ⟨γ', st.gens, w'⟩ (.sl (.fam st.next (st.gens st.next) 0) sz xs) u) ex a1 w1 := by
    rintro γ1 st1 w1 a1 v e1 ex rfl hst hE1 hk hv hold
    obtain ⟨τ, hτ, hv⟩ := hv _ (hE1.rel 2)
    obtain ⟨h1, h2⟩ := hst.told hS [τ] (by simp) hk
    refine ⟨hE1.defers, _, results_tmp hres _ _ _, _, _, rfl, h1, h2 ?_ hv⟩
    exact .keep τ 0 0 sz xs xs rfl hτ rfl rfl id (fun i h _ => .old _ (hold _ (List.getElem_mem _)))
  have hold : ∀ x ∈ flat xs, Old st.next st.gens x := by
    have := relV_old (X := ⟨γ, st.gens, w⟩) (fun id b hb => by show id < γ.top; rw [hS.top]; exact (hS.inb id b hb).2) hr0
    have ht : (⟨γ, st.gens, w⟩ : Ctx).γ.top = st.next := hS.top
    rw [ht] at this
    cases this with
    | slnil _ _ h => exact h
    | slro _ _ h => exact h
    | slfam τ g0 o _ _ h1 h2 h3 => exact h3 (by simpa [okc] using hc)
  -- the first line
  refine wp_seq ?_
  refine code_sound hm noCall_ok (k := 1) (cloneFirst t p0) (.reg 1 [⟨some 2, none, .mv (.c (.sl .nil 0 [])), 0, 0⟩]) (by simp [cloneFirst, compC, compIs, compI, compOp, opdOf, avOf, dstOk]) γ st w _ a .normal
    (upd (env0 [.sl c s xs]) 2 (.sl .nil 0 [])) { st with next := st.next + 1 } hS hE rfl _ (fun γ1 w1 a1 hst1 hE1 => ?_)
  have hS1 := hst1.rel
  have hr1 : RelV ⟨γ1, st.gens, w1⟩ (.sl c s xs) (a1.tmps.getD 0 undef) := by
    have := hE1.rel 0
    rwa [upd_ne _ _ _ _ (by decide)] at this
  obtain ⟨a2, m2, hv2, hm2, hne2⟩ := sl_len hr1
  -- is it nil?
  refine wp_seq (wp_seq ?_)
  refine wp_region ?_
  show wpOps P _ _ [0, 1] a1 w1
  rw [wpOps_cons]
  refine wpOp_value (o := { dst := some 3, op := .move (.tmp 0), type := t, pos := p1, after := #[], guard := none }) (u := .slice a2 xs.length m2) (w' := w1) rfl rfl (by simp only [execOp, Act.eval]; rw [hv2]; rfl) ?_
  have hE2 : RelE γ1 { st with next := st.next + 1 } w1 8 (upd (upd (env0 [.sl c s xs]) 2 (.sl .nil 0 [])) 3 (.sl c s xs)) (a1.put (some 3) (.slice a2 xs.length m2)) := put_rel hE1 (hv2 ▸ hr1) (dst := some 3) (by simp)
  have ht3 : (a1.put (some 3) (.slice a2 xs.length m2)).tmps.getD 3 undef = .slice a2 xs.length m2 := by
    have := hE1.size
    simp [Act.put, Array.getD_eq_getD_getElem?, this]
  generalize a1.put (some 3) (.slice a2 xs.length m2) = a3 at *
  rw [wpOps_cons]
  refine wpOp_value (o := { dst := some 4, op := .binOp .eql t (.tmp 3) (.const (.slice none 0 0)) t, type := bt, pos := p2, after := #[{ on := 0, ground := .data }], guard := none }) (u := .bool a2.isNone) (w' := w1) rfl rfl ?_ ?_
  · simp only [execOp, Act.eval]
    rw [ht3]
    simp only [Sem.run_bind]
    rw [eqGuard_plain w1 ⟨by simp, by simp⟩, Result.andThen_ok]
    have := run_eql (P := P) (t := t) w1 (eq_nils 9999 hu a2 xs.length m2 w1) (fun op => ⟨fun h => by subst h; rfl, fun h => by subst h; rfl⟩) false
    simp at this
    rw [this]; rfl
  have hE4 : RelE γ1 { st with next := st.next + 1 } w1 8 (upd (upd (upd (env0 [.sl c s xs]) 2 (.sl .nil 0 [])) 3 (.sl c s xs)) 4 (.bool a2.isNone)) (a3.put (some 4) (.bool a2.isNone)) := put_rel hE2 (.bool _) (dst := some 4) (by simp)
  show Code.wp P (.cond (.tmp 4) (cloneNil t p3) .skip) _ (a3.put (some 4) (.bool a2.isNone)) w1
  generalize a3.put (some 4) (.bool a2.isNone) = a4 at *
  have hk1 : Keeps st { st with next := st.next + 1 } := ⟨fun _ _ => rfl, fun _ _ => rfl, fun _ _ => rfl⟩
  have hc4 : a4.eval (.tmp 4) = .bool a2.isNone := by
    have := hE4.rel 4
    rw [upd_eq] at this
    exact relV_bool this
  cases ha2 : a2.isNone with
  | true =>
    rw [ha2] at hc4
    refine wp_cond_true hc4 ?_
    have hxs : xs = [] := by
      by_cases h : xs = []
      · exact h
      · obtain ⟨b, off, h'⟩ := hne2 h; rw [h'] at ha2; cases ha2
    refine code_sound hm noCall_ok (k := 1) (cloneNil t p3) (.seq (.reg 1 [⟨some 2, none, .mv (.c (.sl .nil 0 [])), 0, 0⟩]) .ret) (by simp [cloneNil, compC, compIs, compI, compOp, opdOf, avOf, dstOk]) γ1 _ w1 _ a4 .ret
      (upd (upd (upd (upd (env0 [.sl c s xs]) 2 (.sl .nil 0 [])) 3 (.sl c s xs)) 4 (.bool a2.isNone)) 2 (.sl .nil 0 [])) { st with next := st.next + 2 } hS1 hE4 rfl _ (fun γ2 w2 a5 hst2 hE5 => ?_)
    refine finish γ2 _ w2 a5 (.sl .nil 0 []) _ .ret rfl (hst1.trans hst2 (fun _ h => h) (fun id h => by show id < st.next + 1; omega)) hE5 ⟨fun _ _ => rfl, fun _ _ => rfl, fun _ _ => rfl⟩ (fun u hu => ?_) hold
    rw [upd_eq] at hu
    cases hu
    subst hxs
    exact ⟨st.next, Nat.le_refl _, .slfam0 _ _ _ _ _ rfl (by rw [show _ = _ from hst2.rel.top]; show st.next < st.next + 2; omega)⟩
  | false =>
    rw [ha2] at hc4
    refine wp_cond_false hc4 (wp_skip ?_)
    have hE4' : RelE γ1 { st with next := st.next + 1 } w1 8 (upd (upd (upd (env0 [.sl c s xs]) 2 (.sl .nil 0 [])) 3 (.sl c s xs)) 4 (.bool a2.isNone)) a4 := hE4
    generalize hB : (⟨st.next + 5, st.boxes, st.iters, upd st.gens (st.next + 1) (st.gens (st.next + 1) + 1)⟩ : St) = stB
    refine code_sound hm noCall_ok (k := 1) (cloneLast t p4 al) (.seq (.reg 4 [⟨some 5, none, .mkSl 0 sz [], 0, 0⟩, ⟨some 6, none, .mv (.t 0), 0, 0⟩, ⟨some 7, none, .append 2 sz lim (.t 5) (.t 6), 0, 0⟩, ⟨some 2, none, .mv (.t 7), 0, 0⟩]) .ret)
      (by simp [cloneLast, compC, compIs, compI, compOp, opdOf, opdsOf, dstOk, hu, hel, hsz, hlm, hz, hpos, hzl]) γ1 _ w1 _ a4 .ret
      (upd (upd (upd (upd (upd (upd (upd (env0 [.sl c s xs]) 2 (.sl .nil 0 [])) 3 (.sl c s xs)) 4 (.bool a2.isNone)) 5 (.sl (.fam (st.next + 1) (st.gens (st.next + 1)) 0) sz [])) 6 (.sl c s xs)) 7 (.sl (.fam (st.next + 3) (st.gens (st.next + 3)) 0) sz xs)) 2
        (.sl (.fam (st.next + 3) (st.gens (st.next + 3)) 0) sz xs)) stB hS1 hE4' ?_ _ (fun γ2 w2 a5 hst2 hE5 => ?_)
    · subst hB
      simp [evC, evIs, gv, evOp, hoist, putD, Opd.ev, upd, env0, srcOf, appOk, appGens, hc, hs, hlim]
    · refine finish γ2 _ w2 a5 (.sl .nil 0 []) _ .ret rfl (hst1.trans hst2 (fun _ h => h) (fun id h => by show id < st.next + 1; omega)) hE5 ?_ (fun u hu => ⟨st.next + 3, by omega, ?_⟩) hold
      · subst hB
        exact ⟨fun _ _ => rfl, fun _ _ => rfl, fun τ h => by simp [upd, show τ ≠ st.next + 1 by omega]⟩
      · rw [upd_eq] at hu
        have : stB.gens (st.next + 3) = st.gens (st.next + 3) := by subst hB; simp [upd]
        rw [this]; exact hu
def listTy (P : Program) (t : TypeId) (sz lim : Nat) : Bool :=
  match P.underlying t, elemOfSl P t with
  | some (.slice e), some e' => decide (e = e') && decide (szOf P e = some sz) && decide (limOf P e = some lim) && (match zeroOf P e with | some z => decide (z.cells.length = sz) && okCells z | none => false) && decide (0 < sz)
  | _, _ => false

theorem listTy_ok {P : Program} {t : TypeId} {sz lim : Nat} (h : listTy P t sz lim = true) : ListType P t sz lim := by
  simp only [listTy] at h
  split at h
  · rename_i e e' h1 h2
    simp only [Bool.and_eq_true, decide_eq_true_eq] at h
    obtain ⟨⟨⟨⟨rfl, h3⟩, h4⟩, h5⟩, h6⟩ := h
    split at h5
    · rename_i z hz
      simp only [Bool.and_eq_true, decide_eq_true_eq] at h5
      exact ⟨e, z, h1, h2, h3, h4, hz, h6, h5.1, h5.2⟩
    · cases h5
  · cases h

end Go.Ev
