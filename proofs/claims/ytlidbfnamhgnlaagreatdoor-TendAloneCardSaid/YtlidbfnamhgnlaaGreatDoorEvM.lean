/- Each operation of the evaluator is what the machine does: stores to elements, clear. -/
import Derived.Test.YtlidbfnamhgnlaaGreatDoorEvL
namespace Go.Ev
open Go

theorem place {γ : Gh} {st : St} {w : World} {nt : Nat} {e : Env} {a : Act} (hS : RelS γ st w) (hE : RelE γ st w nt e a) {pl : Pl} (hpl : ∀ a', pl = .fld a' → ∃ v, RelV ⟨γ, st.gens, w⟩ (a'.ev e) v) {x : AV}
    (h : plGet e st pl = some x) : ∃ v, RelV ⟨γ, st.gens, w⟩ x v ∧ ∀ {st1 : St} {w1 : World} {N : Nat → Prop}, Step γ st w γ st1 w1 N → st1.boxes = st.boxes → (∀ b id, γ.owner b = .box id → w1.heap[b]? = w.heap[b]?) →
      ∀ {x' : AV} {e2 : Env} {st2 : St}, RelV ⟨γ, st1.gens, w1⟩ x' v → plSet e st1 x' pl = some (e2, st2) → Step γ st w γ st2 w1 N ∧ RelE γ st2 w1 nt e2 a := by
  cases pl with
  | slot t =>
    simp only [plGet, Option.some.injEq] at h
    subst h
    refine ⟨_, hE.rel t, fun {st1 w1 N} hst _ _ {x' e2 st2} hx' hset => ?_⟩
    simp only [plSet, Option.some.injEq, Prod.mk.injEq] at hset
    obtain ⟨rfl, rfl⟩ := hset
    refine ⟨hst, ⟨hE.defers, hE.size, fun t' => ?_⟩⟩
    by_cases e' : t' = t
    · subst e'; rw [upd_eq]; exact hx'
    · rw [upd_ne _ _ _ _ e']; exact (hE.rel t').mono hst.le
  | fld a' =>
    simp only [plGet] at h
    obtain ⟨va, hva⟩ := hpl a' rfl
    cases ha : a'.ev e with
    | ptr id off =>
      rw [ha] at h hva
      cases hva with
      | ptr _ _ b hb =>
      simp only [evLoad, Option.bind_eq_some_iff] at h
      obtain ⟨cs, hcs, hget⟩ := h
      simp only [getR, Bool.false_eq_true, if_false] at hget
      obtain ⟨hoff, hxo⟩ := List.getElem?_eq_some_iff.1 hget
      obtain ⟨ho, vs, el, hv, hl, hr⟩ := hS.box id cs b hcs hb
      refine ⟨vs.getD off undef, hxo ▸ hr off hoff, fun {st1 w1 N} hst hbx hkeep {x' e2 st2} hx' hset => ?_⟩
      simp only [plSet, ha, hbx, hcs, Option.bind_some, Option.map_eq_some_iff, Prod.mk.injEq] at hset
      obtain ⟨cs', hcs', rfl, rfl⟩ := hset
      obtain ⟨hle, hlen, hgetR⟩ := setR_spec hcs'
      have hb1 := hkeep b id ho
      refine ⟨⟨hst.le, ⟨?_, ?_, ?_, ?_, ?_, ?_, hst.rel.top⟩, fun id' hn => ⟨rfl, rfl, fun h => ⟨by
        have : id' ≠ id := by rintro rfl; rw [hb] at h; cases h
        simp [upd, this], ((hst.fam id' hn).2.2 h).2⟩⟩, hst.next⟩, ⟨hE.defers, hE.size, fun t' => (hE.rel t').mono hst.le⟩⟩
      · intro id' cs2 b' h1 h2
        by_cases hid : id' = id
        · subst hid
          rw [hb] at h2; cases h2
          simp [upd] at h1; subst h1
          refine ⟨ho, vs, el, hb1.trans hv, by omega, fun i hi => ?_⟩
          have hgi := hgetR i hi
          rw [List.getElem?_eq_getElem hi] at hgi
          simp only [List.length_singleton] at hgi
          by_cases h3 : i = off
          · subst h3
            rw [if_pos ⟨by omega, by omega⟩] at hgi
            simp at hgi
            rw [hgi]; exact hx'
          · rw [if_neg (by omega), List.getElem?_eq_getElem (by omega)] at hgi
            rw [Option.some.inj hgi]
            exact (hr i (by omega)).mono hst.le
        · simp [upd, hid] at h1
          exact hst.rel.box id' cs2 b' (by rw [hbx]; exact h1) h2
      · exact hst.rel.iter
      · exact hst.rel.inb
      · exact hst.rel.inf
      · exact hst.rel.free
      · intro id' h'
        have := hst.rel.new id' h'
        rw [hbx] at this
        have hid : id' ≠ id := by rintro rfl; rw [hcs] at this; cases this.1
        simp [upd, hid, this]
    | ept c s xs i off =>
      rw [ha] at h hva
      simp only [evLoad] at h
      split at h
      · rename_i hc
        cases hva with
        | ept _ _ _ _ _ a n m hs hi =>
        obtain ⟨_, hw, hne⟩ := sl_cells hs hc.1
        obtain ⟨b, o, ha', vals, hcc, hr⟩ := hne (by rintro rfl; simp at hi)
        simp only [Option.bind_eq_some_iff] at h
        obtain ⟨y, h1, h2⟩ := h
        have hy : y = xs[i] := by rw [List.getElem?_eq_getElem hi] at h1; exact (Option.some.inj h1).symm
        subst hy
        simp only [getR, Bool.false_eq_true, if_false] at h2
        obtain ⟨h3, h4⟩ := List.getElem?_eq_some_iff.1 h2
        have hcl := (hw xs[i] (List.getElem_mem hi)).1
        have hfl := flat_length hw
        have hidx : i * s + off < (flat xs).length := by
          rw [hfl]
          have : (i + 1) * s ≤ xs.length * s := Nat.mul_le_mul_right _ hi
          rw [Nat.add_mul] at this; omega
        refine ⟨vals (i * s + off), ?_, fun {st1 w1 N} hst hbx hkeep {x' e2 st2} hx' hset => ?_⟩
        · have h5 := hr (i * s + off) hidx
          have h6 := flat_get hw i off hi (by omega)
          rw [List.getElem?_eq_getElem hidx, List.getElem?_eq_getElem h3] at h6
          rw [← h4, ← Option.some.inj h6]
          exact h5
        · simp [plSet, ha] at hset
      · cases h
    | _ => rw [ha] at h; simp [evLoad] at h

theorem flat_set {sz : Nat} {xs : List AV} (h : Wf sz xs) {i : Nat} (hi : i < xs.length) {x : AV} (hx : x.cells.length = sz) (j : Nat) (_hj : j < (flat xs).length) :
    (flat (xs.set i x))[j]? = if i * sz ≤ j ∧ j < i * sz + sz then x.cells[j - i * sz]? else (flat xs)[j]? := by
  have h1 : flat (xs.set i x) = flat (xs.take i) ++ (x.cells ++ flat (xs.drop (i + 1))) := by
    rw [List.set_eq_take_append_cons_drop, if_pos hi]
    simp [flat]
  have h2 : flat xs = flat (xs.take i) ++ (xs[i].cells ++ flat (xs.drop (i + 1))) := by
    have : xs = xs.take i ++ (xs[i] :: xs.drop (i + 1)) := by simp
    have h9 := congrArg flat this
    rw [h9]
    simp only [flat, List.flatMap_append, List.flatMap_cons]
  have h3 : (flat (xs.take i)).length = i * sz := by
    rw [flat_length (h.take i), List.length_take]; congr 1; omega
  have h4 := (h xs[i] (List.getElem_mem hi)).1
  rw [h1, h2]
  by_cases c1 : j < i * sz
  · rw [if_neg (by omega), List.getElem?_append_left (by omega), List.getElem?_append_left (by omega)]
  · rw [List.getElem?_append_right (by omega), h3]
    by_cases c2 : j < i * sz + sz
    · rw [if_pos ⟨by omega, c2⟩, List.getElem?_append_left (by omega)]
    · rw [if_neg (by omega), List.getElem?_append_right (by omega), List.getElem?_append_right (by omega), List.getElem?_append_right (by omega), h3, hx, h4]

theorem recell_cells {x : AV} {cs : List AV} (hx : okCells x = true) (hl : cs.length = x.cells.length) (hs : ∀ c ∈ cs, scalar c = true) : (recell x cs).cells = cs ∧ okCells (recell x cs) = true := by
  have key : ∀ x : AV, x.cells = [x] → cs.length = x.cells.length → recell x cs = cs.headD .junk → (recell x cs).cells = cs ∧ okCells (recell x cs) = true := by
    intro x h1 h2 h3
    rw [h1] at h2
    match cs, h2 with
    | [c], _ =>
      rw [h3]
      have hc := hs c (by simp)
      have h4 : c.cells = [c] := by cases c <;> simp_all [scalar, AV.cells]
      simp only [List.headD_cons]
      exact ⟨h4, by simp [okCells, h4, hc]⟩
  cases x with
  | agg cs' => exact ⟨rfl, by simp only [okCells, recell, AV.cells, List.all_eq_true]; exact hs⟩
  | _ => exact key _ rfl hl rfl

theorem mem_setR {cs cs' ys : List AV} {off : Nat} (h : setR cs off ys = some cs') : ∀ c ∈ cs', c ∈ cs ∨ c ∈ ys := by
  unfold setR at h
  split at h
  · cases h
    intro c hc
    simp only [List.mem_append] at hc
    rcases hc with hc | hc | hc
    · exact .inl (List.mem_of_mem_take hc)
    · exact .inr hc
    · exact .inl (List.mem_of_mem_drop hc)
  · cases h

theorem run_storeVar {P : Program} {t : TypeId} {sz : Nat} (hsz : szOf P t = some sz) {v : Value} (hv : v.cells.size = sz) (a : Addr) (w : World) : (storeVar t a v).run P w = (storeCells a v.cells.toList).run P w := by
  simp only [storeVar, Sem.run_bind, run_sizeOf hsz, Result.andThen_ok, hv, ne_eq, not_true, if_false]

theorem sound_store {P : Program} {γ : Gh} {st : St} {w : World} {nt : Nat} {e : Env} {a : Act} (hS : RelS γ st w) (hE : RelE γ st w nt e a) {t : TypeId} {sz : Nat} (hsz : szOf P t = some sz) {x y : AV} {vx vy : Value}
    (hx : RelV ⟨γ, st.gens, w⟩ x vx) (hy : RelV ⟨γ, st.gens, w⟩ y vy) {pl : Option Pl} (hpl : ∀ a', pl = some (.fld a') → ∃ v, RelV ⟨γ, st.gens, w⟩ (a'.ev e) v) {e' : Env} {st' : St}
    (h : evStore e st sz x y pl = some (e', st')) : ∃ w', (Instr.storeAt t vx vy).run P w = .ok () w' ∧ Step γ st w γ st' w' (fun _ => True) ∧ RelE γ st' w' nt e' a := by
  unfold evStore at h
  split at h
  case isFalse => cases h
  rename_i hc
  obtain ⟨hyl, hyo⟩ := hc
  obtain ⟨hcl, hcr⟩ := cells_rel hy
  have hone := okCells_one hy hyo
  have hcr' : ∀ i (h : i < y.cells.length), RelV ⟨γ, st.gens, w⟩ y.cells[i] (vy.cells.toList.getD i undef) := fun i hi => by
    have := hcr i hi
    rw [Array.getD_eq_getD_getElem?] at this
    rw [List.getD_eq_getElem?_getD, Array.getElem?_toList]
    exact this
  cases x with
  | ptr id off =>
    cases hx with
    | ptr _ _ b hb =>
    simp only [Option.bind_eq_some_iff, Option.map_eq_some_iff, Prod.mk.injEq] at h
    obtain ⟨cs, hcs, cs', hcs', rfl, rfl⟩ := h
    obtain ⟨w', h1, h2⟩ := step_var (P := P) hS hcs hb hcs' (us := vy.cells.toList) (by rw [hcl]; simp) hone hcr'
    refine ⟨w', ?_, h2, hE.mono h2.le⟩
    simp only [Instr.storeAt, Instr.sureAddr, Sem.run_bind, Sem.run_pure, Result.andThen_ok]
    rw [run_storeVar hsz (by omega)]
    exact h1
  | ept c s xs0 i off =>
    cases hx with
    | ept _ _ _ _ _ a0 n m hs hi =>
    cases c with
    | fam τ g o =>
      simp only at h
      split at h
      · cases h
      · rename_i pl
        split at h
        · rename_i τ' g' o' s' xs hget
          split at h
          · rename_i hcond
            obtain ⟨rfl, rfl, rfl, rfl, hg⟩ := hcond
            simp only [Option.bind_eq_some_iff] at h
            obtain ⟨old, hold, cs, hcs, hset⟩ := h
            obtain ⟨vp, hvp, hput⟩ := place hS hE (fun a' ha' => hpl a' (by rw [ha'])) hget
            obtain ⟨hii, hio⟩ := List.getElem?_eq_some_iff.1 hold
            subst hio
            have hne : xs ≠ [] := by rintro rfl; simp at hii
            obtain ⟨av, mv, rfl, _, _⟩ := sl_len hvp
            obtain ⟨_, hw, _⟩ := sl_cells hvp (by simp [okc, hg])
            obtain ⟨hoc, hoo⟩ := hw xs[i] (List.getElem_mem hii)
            obtain ⟨hle, hlen, hgetR⟩ := setR_spec hcs
            have hfl := flat_length hw
            have hmul : i * s' + s' ≤ xs.length * s' := by
              have : (i + 1) * s' ≤ xs.length * s' := Nat.mul_le_mul_right _ hii
              rw [Nat.add_mul] at this; omega
            have hscal : ∀ c ∈ cs, scalar c = true := fun c hc => by
              rcases mem_setR hcs c hc with h | h
              · simp only [okCells, List.all_eq_true] at hoo; exact hoo c h
              · simp only [okCells, List.all_eq_true] at hyo; exact hyo c h
            obtain ⟨hrc, hro⟩ := recell_cells hoo (cs := cs) (by omega) hscal
            have hw' : Wf s' (xs.set i (recell xs[i] cs)) := fun x hx => by
              rcases List.mem_or_eq_of_mem_set hx with h | h
              · exact hw x h
              · subst h; exact ⟨by rw [hrc]; omega, hro⟩
            obtain ⟨b, base, m', w', hf, hv, hst, hstep, hrel, hkeep⟩ := fam_write (P := P) hS hvp hg hne (p := i * s' + off) (us := vy.cells.toList) (ucs := y.cells) (by rw [hcl]; simp) hone hcr' (by omega) hw' (by simp)
              (fun j hj => by
                rw [flat_length hw', List.length_set] at hj
                rw [flat_set hw hii (by rw [hrc]; omega) j (by omega), hrc]
                by_cases c1 : i * s' ≤ j ∧ j < i * s' + s'
                · rw [if_pos c1, hgetR _ (by omega)]
                  by_cases c2 : i * s' + off ≤ j ∧ j < i * s' + off + y.cells.length
                  · rw [if_pos c2, if_pos ⟨by omega, by omega⟩]; congr 1; omega
                  · rw [if_neg c2, if_neg (by omega)]
                    have := flat_get hw i (j - i * s') hii (by omega)
                    rw [show i * s' + (j - i * s') = j by omega] at this
                    exact this.symm
                · rw [if_neg c1, if_neg (by omega)])
            cases hv
            obtain ⟨k1, k2⟩ := hput hstep rfl hkeep hrel hset
            refine ⟨w', ?_, k1, k2⟩
            simp only [Instr.storeAt, Instr.sureAddr, Sem.run_bind, Sem.run_pure, Result.andThen_ok]
            rw [run_storeVar hsz (by omega)]
            -- the address: both headers are the family's
            have ha0 : a0 = ⟨b, base + o' * s', none⟩ := by
              cases hs with
              | slstale _ _ _ _ _ _ _ h => exact absurd hg (Nat.ne_of_gt h)
              | slfam0 => simp at hi
              | slfam _ _ _ _ _ b2 base2 _ _ _ hf2 =>
                have hf3 : γ.fam τ' = some (b2, base2) := hf2
                rw [hf] at hf3; cases hf3; rfl
            rw [ha0, add_at]
            exact hst
          · cases h
        · cases h
    | ro => simp at h
    | nil => simp at h
  | _ => simp at h

end Go.Ev
