/- Each operation of the evaluator is what the machine does: structs held against each other. -/
import Derived.Test.YtlidbfnamhgnlaaGreatDoorEvG
import Derived.Laws.StructEq
namespace Go.Ev
open Go

theorem eqCells_len : ∀ {ls : List LK} {xs ys : List AV} {c : Bool}, eqCells ls xs ys = some c → xs.length = ls.length ∧ ys.length = ls.length
  | [], [], [], _, _ => ⟨rfl, rfl⟩
  | l :: ls, x :: xs, y :: ys, c, h => by
    simp only [eqCells] at h
    split at h
    · rename_i b d h1 h2
      have := eqCells_len h2
      simp [this.1, this.2]
    · cases h
  | [], [], _ :: _, _, h => by simp [eqCells] at h
  | [], _ :: _, _, _, h => by simp [eqCells] at h
  | _ :: _, [], _, _, h => by simp [eqCells] at h
  | _ :: _, _ :: _, [], _, h => by simp [eqCells] at h

theorem eqCells_split : ∀ (l1 : List LK) {l2 : List LK} {xs ys : List AV} {c : Bool}, eqCells (l1 ++ l2) xs ys = some c →
    ∃ c1 c2, eqCells l1 (xs.take l1.length) (ys.take l1.length) = some c1 ∧ eqCells l2 (xs.drop l1.length) (ys.drop l1.length) = some c2 ∧ c = (c1 && c2) := by
  intro l1
  induction l1 with
  | nil => intro l2 xs ys c h; exact ⟨true, c, by simp [eqCells], by simpa using h, by simp⟩
  | cons l l1 ih =>
    intro l2 xs ys c h
    match xs, ys with
    | [], [] => simp [eqCells] at h
    | [], _ :: _ => simp [eqCells] at h
    | _ :: _, [] => simp [eqCells] at h
    | x :: xs, y :: ys =>
      simp only [List.cons_append, eqCells] at h
      split at h
      · rename_i b d h1 h2
        obtain ⟨c1, c2, k1, k2, rfl⟩ := ih h2
        simp at h; subst h
        exact ⟨b && c1, c2, by simp [eqCells, h1, k1], by simpa using k2, by simp [Bool.and_assoc]⟩
      · cases h

/-- The value of a type whose cells are told. -/
def ValOf (P : Program) (X : Ctx) (t : TypeId) (xs : List AV) (v : Value) : Prop :=
  match agOf P t with
  | some true => ∃ arr : Array Value, v = .agg arr ∧ xs.length = arr.size ∧ ∀ i (h : i < xs.length), RelV X xs[i] (arr.getD i undef)
  | some false => ∃ x, xs = [x] ∧ RelV X x v
  | none => False

theorem run_part {P : Program} {X : Ctx} {t : TypeId} {sz : Nat} {ag : Bool} (hag : agOf P t = some ag) (hsz : szOf P t = some sz) (w : World) {cs : List AV} {arr : Array Value} (hl : cs.length = arr.size)
    (hr : ∀ i (h : i < cs.length), RelV X cs[i] (arr.getD i undef)) {off : Nat} (hle : off + sz ≤ cs.length) (hok : ag = true ∨ sz = 1) :
    ∃ v, (part t arr off).run P w = .ok v w ∧ ValOf P X t ((cs.drop off).take sz) v := by
  simp only [part, Sem.run_bind, run_isAgg hag, Result.andThen_ok]
  cases ag with
  | true =>
    refine ⟨.agg (arr.extract off (off + sz)), by simp [run_sizeOf hsz], ?_⟩
    simp only [ValOf, hag]
    refine ⟨_, rfl, by simp; omega, fun i hi => ?_⟩
    simp at hi
    have := hr (off + i) (by omega)
    simp only [Array.getD_eq_getD_getElem?] at this ⊢
    rw [Array.getElem?_extract]
    rw [if_pos (by omega)]
    simpa using this
  | false =>
    rcases hok with hok | hok
    · cases hok
    · subst hok
      have h1 : off < arr.size := by omega
      refine ⟨arr[off], by simp [h1], ?_⟩
      simp only [ValOf, hag]
      refine ⟨cs[off]'(by omega), ?_, ?_⟩
      · rw [List.take_one, List.head?_drop, List.getElem?_eq_getElem (by omega)]; rfl
      · have := hr off (by omega)
        simpa [Array.getD_eq_getD_getElem?, h1] using this

theorem eq_plain {P : Program} {X : Ctx} (w : World) : ∀ (d : Nat) (t : TypeId) (ls : List LK), plainT P d t = some ls → ∀ D, d ≤ D → ∀ (xs ys : List AV) (va vb : Value) (c : Bool),
    ValOf P X t xs va → ValOf P X t ys vb → eqCells ls xs ys = some c → (Op.equalIn D t va vb).run P w = .ok c w := by
  intro d
  induction d with
  | zero => intro t ls h; simp [plainT] at h
  | succ d ih =>
    intro t ls h D hD xs ys va vb c hx hy hc
    obtain ⟨D, rfl⟩ : ∃ D', D = D' + 1 := ⟨D - 1, by omega⟩
    simp only [plainT] at h
    split at h
    · cases h
    rename_i hp
    simp only [Bool.not_eq_true] at hp
    have scal : ∀ (l : LK), ls = [l] → ∀ (hag : agOf P t = some false), (∀ x y u v b, RelV X x u → RelV X y v → eqCell l x y = some b → (Op.equalIn (D + 1) t u v).run P w = .ok b w) → (Op.equalIn (D + 1) t va vb).run P w = .ok c w := by
      intro l hls hag hone
      subst hls
      simp only [ValOf, hag] at hx hy
      obtain ⟨x, rfl, hx⟩ := hx
      obtain ⟨y, rfl, hy⟩ := hy
      simp only [eqCells] at hc
      split at hc
      · rename_i b b' h1 h2
        simp at h2; subst h2
        simp at hc; subst hc
        exact hone x y va vb b hx hy h1
      · cases hc
    split at h
    · rename_i k hu
      refine scal .i (by simpa using h.symm) (by simp [agOf, hu]) (fun x y u v b hx hy hb => ?_)
      cases x <;> cases y <;> simp only [eqCell, reduceCtorEq] at hb
      cases hx; cases hy
      split at hb
      · rename_i hk; subst hk; simp at hb; subst hb; exact run_equalIn_int w D t _ _ _ _ hu
      · cases hb
    · rename_i hu
      refine scal .s (by simpa using h.symm) (by simp [agOf, hu]) (fun x y u v b hx hy hb => ?_)
      cases x <;> cases y <;> simp only [eqCell, reduceCtorEq, Option.some.injEq] at hb
      cases hx; cases hy; subst hb
      exact run_equalIn_string w D t _ _ hu
    · rename_i hu
      refine scal .b (by simpa using h.symm) (by simp [agOf, hu]) (fun x y u v b hx hy hb => ?_)
      cases x <;> cases y <;> simp only [eqCell, reduceCtorEq, Option.some.injEq] at hb
      cases hx; cases hy; subst hb
      exact run_equalIn_bool' w D t _ _ hu
    · rename_i fs hu
      have hag : agOf P t = some true := by simp [agOf, hu]
      simp only [ValOf, hag] at hx hy
      obtain ⟨arr, rfl, hl, hr⟩ := hx
      obtain ⟨brr, rfl, hl', hr'⟩ := hy
      have hf : P.fieldsOf t = fs := by simp [Program.fieldsOf, hu]
      rw [run_equalIn_struct w D t arr brr (by rw [hf]; exact hu) hp, hf]
      have key : ∀ (l : List Field) (off : Nat) (ls : List LK) (c : Bool), plainFs P (plainT P d) off l = some ls → eqCells ls (xs.drop off) (ys.drop off) = some c → (Op.eqFields D arr brr l).run P w = .ok c w := by
        intro l
        induction l with
        | nil =>
          intro off ls c hl' hc
          simp [plainFs] at hl'
          subst hl'
          have hlen := eqCells_len hc
          rw [List.eq_nil_of_length_eq_zero hlen.1, List.eq_nil_of_length_eq_zero hlen.2] at hc
          simp [eqCells] at hc
          subst hc
          simp [Op.eqFields]
        | cons f l ihl =>
          intro off ls c hpf hc
          simp only [plainFs] at hpf
          split at hpf
          · cases hpf
          rename_i hcond
          simp only [not_or, Decidable.not_not] at hcond
          obtain ⟨hname, hoff⟩ := hcond
          split at hpf
          · rename_i l1 s ag h1 h2 h3
            split at hpf
            · rename_i hns
              obtain ⟨hns, h0, hok⟩ := hns
              subst hns
              simp only [Option.map_eq_some_iff] at hpf
              obtain ⟨l2, hpf, rfl⟩ := hpf
              have hlen := eqCells_len hc
              simp only [List.length_append, List.length_drop] at hlen
              obtain ⟨c1, c2, k1, k2, rfl⟩ := eqCells_split l1 hc
              rw [List.drop_drop, List.drop_drop] at k2
              have hln := eqCells_len k1
              simp only [List.length_take, List.length_drop] at hln
              obtain ⟨pa, ra, va'⟩ := run_part (X := X) h3 h2 w hl hr (off := off) (by omega) hok
              obtain ⟨pb, rb, vb'⟩ := run_part (X := X) h3 h2 w hl' hr' (off := off) (by omega) hok
              have he := ih f.type l1 h1 D (by omega) _ _ pa pb c1 va' vb' k1
              have hrest := ihl (off + l1.length) l2 c2 hpf k2
              simp only [Op.eqFields, if_pos hname, Sem.run_bind, hoff, ra, rb, he, Result.andThen_ok, Sem.run_ite]
              cases c1 <;> simp [hrest]
            · cases hpf
          · cases hpf
      exact key fs.toList 0 ls c h (by simpa using hc)
    · cases h

theorem sound_eqA {P : Program} {X : Ctx} {neg : Bool} {t : TypeId} {ls : List LK} {ox oy : Operand} {x y v : AV} {a b : Value} (w : World) {fs : Array Field} (ht : P.underlying t = some (.struct fs))
    (hg : P.eqGuardType P.depth t = false) (hp : plainT P 8 t = some ls) (hx : RelV X x a) (hy : RelV X y b) (h : evEqA neg ls x y = some v) :
    ∃ u, (do eqGuard (if neg then .neq else .eql) t ox oy a b; binOp (if neg then .neq else .eql) t a b : Sem Value).run P w = .ok u w ∧ RelV X v u := by
  cases x with
  | agg xs =>
    cases hx with
    | agg _ arr hl hr =>
    cases y with
    | agg ys =>
      cases hy with
      | agg _ brr hl' hr' =>
      simp only [evEqA, Option.map_eq_some_iff] at h
      obtain ⟨c, hc, rfl⟩ := h
      have hag : agOf P t = some true := by simp [agOf, ht]
      have := eq_plain (X := X) w 8 t ls hp (9999 + 1) (by omega) xs ys (.agg arr) (.agg brr) c (by simp only [ValOf, hag]; exact ⟨_, rfl, hl, hr⟩) (by simp only [ValOf, hag]; exact ⟨_, rfl, hl', hr'⟩) hc
      rw [Sem.run_bind, run_eqGuard_agg w _ _ _ _ _ _ hg, Result.andThen_ok]
      exact ⟨_, run_eql w this (fun op => ⟨fun h => by subst h; rfl, fun h => by subst h; rfl⟩) neg, .bool _⟩
    | _ => simp [evEqA] at h
  | _ => cases y <;> simp [evEqA] at h

end Go.Ev
