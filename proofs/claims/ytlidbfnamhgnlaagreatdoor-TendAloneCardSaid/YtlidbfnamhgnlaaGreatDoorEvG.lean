/- Each operation of the evaluator is what the machine does: reckoning. -/
import Derived.Test.YtlidbfnamhgnlaaGreatDoorEvE
namespace Go.Ev
open Go

theorem eqGuard_plain {P : Program} {op : BinOp} {t : TypeId} {x y : Operand} {a b : Value} (w : World) (h : (∀ c, a ≠ .agg c) ∧ a ≠ .nilIface) : (eqGuard op t x y a b).run P w = .ok () w := by
  cases a <;> first | exact absurd rfl (h.1 _) | exact absurd rfl h.2 | (cases op <;> simp [eqGuard])

theorem run_binI {P : Program} {op : BinOp} {t : TypeId} {k : IntKind} {a b : Int} {v : AV} (w : World) (h : binI op k a b = some v) :
    ∃ u, (binOp op t (.int k a) (.int k b)).run P w = .ok u w ∧ ∀ X, RelV X v u := by
  cases op <;> simp only [binI, Option.some.injEq, reduceCtorEq] at h <;> (try (split at h <;> simp at h)) <;> subst h <;>
    refine ⟨_, ?_, fun X => by first | exact .int _ _ | exact .bool _⟩ <;>
    first | rfl | simp_all [binOp, Op.intArith, Op.intDiv, Op.intBits, Op.intCmp]

theorem sound_bin {P : Program} {X : Ctx} {op : BinOp} {t : TypeId} {ox oy : Operand} {x y v : AV} {a b : Value} (w : World) (hx : RelV X x a) (hy : RelV X y b)
    (h : evBin op x y = some v) : ∃ u, (do eqGuard op t ox oy a b; binOp op t a b : Sem Value).run P w = .ok u w ∧ RelV X v u := by
  cases x with
  | int k n =>
    cases hx
    rw [Sem.run_bind, eqGuard_plain w ⟨by simp, by simp⟩, Result.andThen_ok]
    cases y with
    | int k' m =>
      cases hy
      simp only [evBin] at h
      cases op with
      | shl =>
        simp only [shiftI] at h
        split at h
        · simp at h
        · rename_i h0; simp at h; subst h
          exact ⟨_, by simp only [binOp, Op.shift, if_neg h0]; rfl, .int _ _⟩
      | shr =>
        simp only [shiftI] at h
        split at h
        · simp at h
        · rename_i h0; simp at h; subst h
          exact ⟨_, by simp only [binOp, Op.shift, if_neg h0]; rfl, .int _ _⟩
      | _ =>
        simp only at h
        split at h
        · rename_i hk; subst hk
          obtain ⟨u, h1, h2⟩ := run_binI (P := P) (t := t) w h
          exact ⟨u, h1, h2 X⟩
        · simp at h
    | _ => simp [evBin] at h
  | str s =>
    cases hx
    rw [Sem.run_bind, eqGuard_plain w ⟨by simp, by simp⟩, Result.andThen_ok]
    cases y with
    | str s' =>
      cases hy
      simp only [evBin] at h
      cases op <;> simp only [binS, Option.some.injEq, reduceCtorEq] at h
      case add =>
        split at h
        · rename_i hle
          simp at h; subst h
          refine ⟨.string (s ++ s'), ?_, .str _⟩
          have h9 : ((s.size : Int) + (s'.size : Int)) ≤ 9223372036854775807 := by omega
          simp [binOp, Op.stringOp, h9]
        · simp at h
      all_goals
        subst h
        exact ⟨_, rfl, .bool _⟩
    | _ => simp [evBin] at h
  | _ => simp [evBin] at h

theorem eq_bool {P : Program} {t : TypeId} (d : Nat) (ht : P.underlying t = some .bool) (a b : Bool) (w : World) : (Op.equalIn (d + 1) t (.bool a) (.bool b)).run P w = .ok (a == b) w := by
  rw [Op.equalIn]
  simp only [Sem.run_bind, run_und ht, Result.andThen_ok, Sem.run_pure]

theorem eq_nilp {P : Program} {t el : TypeId} (d : Nat) (ht : P.underlying t = some (.pointer el)) (q : Option Addr) (w : World) :
    (Op.equalIn (d + 1) t (.pointer none) (.pointer q)).run P w = .ok q.isNone w := by
  rw [Op.equalIn]
  simp only [Sem.run_bind, run_und ht, Result.andThen_ok, Sem.run_pure]

theorem eq_nilp' {P : Program} {t el : TypeId} (d : Nat) (ht : P.underlying t = some (.pointer el)) (q : Addr) (w : World) :
    (Op.equalIn (d + 1) t (.pointer (some q)) (.pointer none)).run P w = .ok false w := by
  rw [Op.equalIn]
  simp only [Sem.run_bind, run_und ht, Result.andThen_ok, Sem.run_pure]

theorem run_eql {P : Program} {t : TypeId} {a b : Value} {c : Bool} (w : World) (h : (Op.equalIn (9999 + 1) t a b).run P w = .ok c w)
    (hk : ∀ op, (op = .eql → binOp op t a b = (do pure (.bool (← Op.equal t a b)))) ∧ (op = .neq → binOp op t a b = (do pure (.bool (!(← Op.equal t a b)))))) (neg : Bool) :
    (binOp (if neg then .neq else .eql) t a b).run P w = .ok (.bool (c != neg)) w := by
  have h' : (Op.equal t a b).run P w = .ok c w := h
  cases neg
  · simp only [Bool.false_eq_true, if_false]
    rw [(hk .eql).1 rfl, Sem.run_bind, h', Result.andThen_ok]
    simp
  · simp only [if_true]
    rw [(hk .neq).2 rfl, Sem.run_bind, h', Result.andThen_ok]
    simp

theorem sound_eqB {P : Program} {X : Ctx} {neg : Bool} {t : TypeId} {ox oy : Operand} {x y v : AV} {a b : Value} (w : World) (ht : P.underlying t = some .bool) (hx : RelV X x a) (hy : RelV X y b)
    (h : evEqB neg x y = some v) : ∃ u, (do eqGuard (if neg then .neq else .eql) t ox oy a b; binOp (if neg then .neq else .eql) t a b : Sem Value).run P w = .ok u w ∧ RelV X v u := by
  cases x with
  | bool c =>
    cases hx
    rw [Sem.run_bind, eqGuard_plain w ⟨by simp, by simp⟩, Result.andThen_ok]
    cases y with
    | bool c' =>
      cases hy
      simp only [evEqB, Option.some.injEq] at h
      subst h
      refine ⟨_, run_eql w (eq_bool 9999 ht c c' w) (fun op => ⟨fun h => by subst h; rfl, fun h => by subst h; rfl⟩) neg, ?_⟩
      cases neg <;> simp <;> exact .bool _
    | _ => simp [evEqB] at h
  | _ => simp [evEqB] at h

theorem sound_eqP {P : Program} {X : Ctx} {neg : Bool} {t el : TypeId} {ox oy : Operand} {x y v : AV} {a b : Value} (w : World) (ht : P.underlying t = some (.pointer el)) (hx : RelV X x a) (hy : RelV X y b)
    (h : evEqP neg x y = some v) : ∃ u, (do eqGuard (if neg then .neq else .eql) t ox oy a b; binOp (if neg then .neq else .eql) t a b : Sem Value).run P w = .ok u w ∧ RelV X v u := by
  have key : ∀ (c : Bool) (p q : Option Addr), (Op.equalIn (9999 + 1) t (.pointer p) (.pointer q)).run P w = .ok c w →
      ∃ u, (do eqGuard (if neg then .neq else .eql) t ox oy (.pointer p) (.pointer q); binOp (if neg then .neq else .eql) t (.pointer p) (.pointer q) : Sem Value).run P w = .ok u w ∧ RelV X (.bool (c != neg)) u := by
    intro c p q hr
    rw [Sem.run_bind, eqGuard_plain w ⟨by simp, by simp⟩, Result.andThen_ok]
    exact ⟨_, run_eql w hr (fun op => ⟨fun h => by subst h; rfl, fun h => by subst h; rfl⟩) neg, .bool _⟩
  cases x with
  | nilp =>
    cases hx
    simp only [evEqP, Option.map_eq_some_iff] at h
    obtain ⟨c, hc, rfl⟩ := h
    cases y with
    | nilp => cases hy; simp [isNilp] at hc; subst hc; exact key true none none (eq_nilp 9999 ht none w)
    | ptr id off => cases hy with | ptr _ _ b hb => simp [isNilp] at hc; subst hc; exact key false none _ (eq_nilp 9999 ht _ w)
    | _ => simp [isNilp] at hc
  | ptr id off =>
    cases hx with
    | ptr _ _ b hb =>
    cases y with
    | nilp =>
      cases hy
      simp [evEqP, isNilp] at h; subst h
      have := key false (some ⟨b, off, none⟩) none (eq_nilp' 9999 ht _ w)
      simpa using this
    | _ => simp [evEqP] at h
  | _ => cases y <;> simp [evEqP, isNilp] at h

end Go.Ev
