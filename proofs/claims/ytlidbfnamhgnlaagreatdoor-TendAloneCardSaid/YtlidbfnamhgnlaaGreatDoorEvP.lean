/- Each operation of the evaluator but a call is what the machine does: all of them. -/
import Derived.Test.YtlidbfnamhgnlaaGreatDoorEvO
namespace Go.Ev
open Go

section
variable {P : Program} {γ : Gh} {st : St} {w : World} {nt : Nat} {e : Env} {a : Act} {o : Oper} {call : Nat → List AV → St → Option (AV × St)} {base : Nat}

theorem Step.weak {γ' : Gh} {st' : St} {w' : World} {N M : Nat → Prop} (h : Step γ st w γ' st' w' N) (hm : ∀ id, M id → N id) : Step γ st w γ' st' w' M := ⟨h.le, h.rel, fun id hi => h.fam id (hm id hi), h.next⟩

theorem relV_bool {X : Ctx} {b : Bool} {v : Value} (h : RelV X (.bool b) v) : v = .bool b := by cases h; rfl

theorem sound_eqI {X : Ctx} {neg : Bool} {t : TypeId} {ms : Array (String × TypeId)} {ox oy : Operand} {x y v : AV} {a b : Value} (w : World) (ht : P.underlying t = some (.interface ms))
    (hc : (∃ c, ox = .const c) ∨ ∃ c, oy = .const c) (hx : RelV X x a) (hy : RelV X y b)
    (h : evEqI neg x y = some v) : ∃ u, (do eqGuard (if neg then .neq else .eql) t ox oy a b; binOp (if neg then .neq else .eql) t a b : Sem Value).run P w = .ok u w ∧ RelV X v u := by
  have hg : ∀ op, (eqGuard op t ox oy .nilIface .nilIface).run P w = .ok () w := fun op => by
    rcases hc with ⟨c, rfl⟩ | ⟨c, rfl⟩
    · cases op <;> simp [eqGuard]
    · cases op <;> simp [eqGuard]
  have hgi : ∀ op t' u, (eqGuard op t ox oy .nilIface (.iface t' u)).run P w = .ok () w := fun op t' u => by cases op <;> simp [eqGuard]
  have hgi' : ∀ op t' u b, (eqGuard op t ox oy (.iface t' u) b).run P w = .ok () w := fun op t' u b => by cases op <;> simp [eqGuard]
  cases x with
  | nili =>
    cases hx
    cases y with
    | nili =>
      cases hy
      simp [evEqI] at h; subst h
      rw [Sem.run_bind, hg, Result.andThen_ok]
      refine ⟨_, run_eql w (c := true) (by rw [Op.equalIn]; simp only [Sem.run_bind, run_und ht, Result.andThen_ok, Sem.run_pure]) (fun op => ⟨fun h => by subst h; rfl, fun h => by subst h; rfl⟩) neg, ?_⟩
      simpa using RelV.bool _
    | ifc t' z =>
      cases hy with
      | ifc _ _ u hu =>
      simp [evEqI] at h; subst h
      rw [Sem.run_bind, hgi, Result.andThen_ok]
      refine ⟨_, run_eql w (c := false) (by rw [Op.equalIn]; simp only [Sem.run_bind, run_und ht, Result.andThen_ok, Sem.run_pure]) (fun op => ⟨fun h => by subst h; rfl, fun h => by subst h; rfl⟩) neg, ?_⟩
      simpa using RelV.bool _
    | _ => simp [evEqI] at h
  | ifc t' z =>
    cases hx with
    | ifc _ _ u hu =>
    cases y with
    | nili =>
      cases hy
      simp [evEqI] at h; subst h
      rw [Sem.run_bind, hgi', Result.andThen_ok]
      refine ⟨_, run_eql w (c := false) (by rw [Op.equalIn]; simp only [Sem.run_bind, run_und ht, Result.andThen_ok, Sem.run_pure]) (fun op => ⟨fun h => by subst h; rfl, fun h => by subst h; rfl⟩) neg, ?_⟩
      simpa using RelV.bool _
    | _ => simp [evEqI] at h
  | _ => cases y <;> simp [evEqI] at h

theorem partsOf_rel {fs : Array Field} (hE : RelE γ st w nt e a) : ∀ {ps : List (Nat × Operand)} {l : List (Nat × Nat × Opd)}, partsOf P fs ps = some l →
    All2 (fun (p : Nat × Value) (q : Nat × Nat × AV) => ((fs[p.1]?).bind fun f => (szOf P f.type).map fun s => (f.offset, s)) = some (q.1, q.2.1) ∧ RelV ⟨γ, st.gens, w⟩ q.2.2 p.2)
      (ps.map fun p => (p.1, a.eval p.2)) (l.map fun p => (p.1, p.2.1, p.2.2.ev e))
  | [], l, h => by simp [partsOf] at h; subst h; exact .nil
  | (i, x) :: ps, l, h => by
    simp only [partsOf] at h
    split at h
    · rename_i f y l' h1 h2 h3
      split at h
      · rename_i s h4
        simp at h; subst h
        exact .cons ⟨by simp [h1, h4], relOpd hE h2⟩ (partsOf_rel hE h3)
      · cases h
    · cases h

theorem run_places' : ∀ {fs : List Field}, fs.all (fun f => (szOf P f.type).isSome) = true → ∀ w : World, (fs.mapM fun f => Prod.mk f.offset <$> Go.sizeOf f.type : Sem (List (Nat × Nat))).run P w =
    .ok (fs.map fun f => (f.offset, (szOf P f.type).getD 0)) w
  | [], _, w => by simp
  | f :: fs, h, w => by
    simp only [List.all_cons, Bool.and_eq_true] at h
    obtain ⟨s, hs⟩ := Option.isSome_iff_exists.1 h.1
    simp [run_sizeOf hs, hs, run_places' h.2]

theorem sound_build {t : TypeId} {fs : Array Field} (ht : P.underlying t = some (.struct fs)) (hall : fs.toList.all (fun f => (szOf P f.type).isSome) = true) {z : AV} (hz : zeroOf P t = some z) {ps : List (Nat × Operand)}
    {l : List (Nat × Nat × Opd)} (hl : partsOf P fs ps = some l) (hE : RelE γ st w nt e a) {cs : List AV} (h : fillA z.cells (l.map fun p => (p.1, p.2.1, p.2.2.ev e)) = some cs) :
    ∃ u, (Instr.build t (ps.map fun p => (p.1, a.eval p.2)).toArray).run P w = .ok u w ∧ RelV ⟨γ, st.gens, w⟩ (.agg cs) u := by
  obtain ⟨zv, hzr, hzv, inf, hinf, hiz⟩ := run_zero hz w
  have hzrel := relV_avOf ⟨γ, st.gens, w⟩ _ zv z (Nat.le_refl _) hzv
  obtain ⟨hc1, hc2⟩ := cells_rel hzrel
  let places : Array (Nat × Nat) := (fs.toList.map fun f => (f.offset, (szOf P f.type).getD 0)).toArray
  have hall2 : All2 (fun (p : Nat × Value) (q : Nat × Nat × AV) => places[p.1]? = some (q.1, q.2.1) ∧ RelV ⟨γ, st.gens, w⟩ q.2.2 p.2) (ps.map fun p => (p.1, a.eval p.2)) (l.map fun p => (p.1, p.2.1, p.2.2.ev e)) := by
    have := partsOf_rel hE hl
    generalize (ps.map fun p => (p.1, a.eval p.2)) = ps' at this
    generalize (l.map fun p => (p.1, p.2.1, p.2.2.ev e)) = l' at this
    induction this with
    | nil => exact .nil
    | cons h t ih =>
      refine .cons ⟨?_, h.2⟩ ih
      obtain ⟨h1, _⟩ := h
      simp only [Option.bind_eq_some_iff, Option.map_eq_some_iff] at h1
      obtain ⟨f, hf, s, hs, he⟩ := h1
      simp only [places, List.getElem?_toArray, List.getElem?_map, Array.getElem?_toList, hf, Option.map_some, hs, Option.getD_some]
      rw [← he]
  obtain ⟨arr, h1, h2, h3⟩ := fill_rel (X := ⟨γ, st.gens, w⟩) (places[·]?) _ _ zv.cells z.cells cs hc1 hc2 hall2 h
  refine ⟨.agg arr, ?_, .agg cs arr h2 h3⟩
  have hp := run_places' (P := P) hall w
  simp only [Instr.build, Sem.run_bind, hzr, Result.andThen_ok, run_und ht]
  rw [Array.mapM_eq_mapM_toList]
  simp only [Sem.run_map, bind_pure_comp, hp, Result.andThen_ok]
  simp only [places] at h1
  simp only [h1, Sem.run_pure]

theorem sound_mkSl {t el : TypeId} {sz len id : Nat} (hS : RelS γ st w) (ht : P.underlying t = some (.slice el)) (hsz : szOf P el = some sz) {z : AV} (hz : zeroOf P el = some z) (hbig : len * sz ≤ 16777216) (hid : id < st.next) (hf : γ.fam id = none)
    {ps : List (Nat × Operand)} (hps : ps.map (·.1) = List.range len) {l : List Opd} (hl : opdsOf (ps.map (·.2)) = some l) (hE : RelE γ st w nt e a)
    (hok : (l.all fun p => decide ((p.ev e).cells.length = sz) && okCells (p.ev e)) = true) :
    ∃ γ' u w', (Instr.buildSlice t len (ps.map fun p => (p.1, a.eval p.2)).toArray).run P w = .ok u w' ∧ Step γ st w γ' st w' (fun j => j ≠ id) ∧ RelV ⟨γ', st.gens, w'⟩ (.sl (.fam id (st.gens id) 0) sz (l.map fun p => p.ev e)) u := by
  have hrel := relOpds hE hl
  have hlen1 : ps.length = len := by have := congrArg List.length hps; simpa using this
  have hlen2 : l.length = len := by have := hrel.length; simp at this; omega
  have hwf : Wf sz (l.map fun p => p.ev e) := fun x hx => by
    simp only [List.mem_map] at hx
    obtain ⟨p, hp, rfl⟩ := hx
    simp only [List.all_eq_true, Bool.and_eq_true, decide_eq_true_eq] at hok
    exact hok p hp
  have hfl := flat_length hwf
  simp only [List.length_map, hlen2] at hfl
  have hvsz : ∀ v ∈ (ps.map (·.2)).map a.eval, v.cells.size = sz := by
    intro v hv
    obtain ⟨i, hi, rfl⟩ := List.mem_iff_getElem.1 hv
    simp at hi
    have h1 := hrel.get i (by simp; omega) (by simp; omega)
    obtain ⟨h2, _⟩ := cells_rel h1
    have h3 := (hwf _ (List.getElem_mem (l := l.map fun p => p.ev e) (n := i) (by simp; omega))).1
    omega
  obtain ⟨arr, k1, k2, _, k4⟩ := fill_all sz ((ps.map (·.2)).map a.eval) 0 ((Array.range (len * sz)).map fun i => ((if len * sz = 0 then #[] else (match (P.info? el).bind (·.zero) with | some v => v.cells | none => #[]))[i % (if len * sz = 0 then #[] else (match (P.info? el).bind (·.zero) with | some v => v.cells | none => #[])).size]! : Value)) hvsz (by simp; rw [hlen1]; omega)
  obtain ⟨γ', h1, h2⟩ := step_fam (w' := w.alloc (.cells arr el)) hS (id := id) hid hf hwf (m := len) (by simp; omega) arr el (0, 0) rfl (by rw [k2]; simp) (fun i _ => by simp) ⟨rfl, rfl⟩ (fun i hi => by
    obtain ⟨q, k, hq, hk, rfl, hqk⟩ := flat_get? hwf i hi
    rw [List.getElem?_eq_getElem hi] at hqk
    simp at hq
    have h1 := hrel.get q (by simp; omega) (by simp; omega)
    obtain ⟨h2, h3⟩ := cells_rel h1
    have h4 := (hwf _ (List.getElem_mem (l := l.map fun p => p.ev e) (n := q) (by simp; omega))).1
    have h5 := k4 q (by simp; omega) k hk
    rw [Nat.zero_add] at h5
    rw [List.getElem?_eq_getElem (by omega)] at hqk
    rw [Option.some.inj hqk, Array.getD_eq_getD_getElem?, h5]
    have h6 := h3 k (by omega)
    rw [Array.getD_eq_getD_getElem?] at h6
    exact h6)
  refine ⟨γ', _, _, ?_, h1, h2⟩
  obtain ⟨zv, hzr, hzv, inf, hinf, hiz⟩ := run_zero hz w
  have hzip : (ps.map fun p => (p.1, a.eval p.2)) = (((ps.map (·.2)).map a.eval).zipIdx 0).map fun p => (p.2, p.1) := by
    have := zip_of_range (ps.map fun p => (p.1, a.eval p.2)) 0 (by
      simp only [List.map_map, List.length_map]
      have e1 : ((fun x : Nat × Value => x.1) ∘ fun p : Nat × Operand => (p.1, a.eval p.2)) = (·.1) := rfl
      rw [e1, hps, hlen1, List.range_eq_range'])
    rw [this]
    simp only [List.map_map]
    rfl
  have hnb : ¬ (16777216 < len * sz) := by omega
  simp only [Instr.buildSlice, Sem.run_bind, run_und ht, Result.andThen_ok, run_sizeOf hsz]
  rw [if_neg (by simpa using hnb)]
  by_cases h0 : len * sz = 0
  · simp only [h0, if_true] at k1 ⊢
    simp only [Sem.run_bind, Sem.run_pure, Result.andThen_ok, hzip]
    rw [k1]
    simp only [Sem.run_bind, newRow, run_newObj, Sem.run_pure, Result.andThen_ok, List.length_map, hlen2]
    rfl
  · simp only [h0, if_false, hinf, Option.bind_some, hiz] at k1 ⊢
    simp only [Sem.run_bind, hzr, Sem.run_pure, Result.andThen_ok, hzip]
    rw [k1]
    simp only [Sem.run_bind, newRow, run_newObj, Sem.run_pure, Result.andThen_ok, List.length_map, hlen2]
    rfl

end
end Go.Ev
