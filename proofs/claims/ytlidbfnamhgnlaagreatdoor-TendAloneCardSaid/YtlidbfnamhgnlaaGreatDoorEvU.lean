/- A region whose order is drawn: whatever the order, the machine ends where the run in text order ends. -/
import Derived.Test.YtlidbfnamhgnlaaGreatDoorEvT
namespace Go.Ev
open Go

/-! ### lists of what is done -/

def Done (l : Array Bool) (i : Nat) : Prop := l[i]? = some true

theorem done_set {l : Array Bool} {i k : Nat} (hi : i < l.size) : Done (l.setIfInBounds i true) k ↔ k = i ∨ Done l k := by
  unfold Done
  by_cases h : k = i
  · subst h; simp [hi]
  · rw [Array.getElem?_setIfInBounds_ne (Ne.symm h)]; simp [h]

theorem ready_spec {ops : Array Oper} {l : Array Bool} (hl : l.size = ops.size) {i : Nat} (h : i ∈ Region.ready .any ops l) : i < ops.size ∧ ¬ Done l i ∧ ∀ k, EdgeTo ops i k → Done l k := by
  simp only [Region.ready, List.mem_filter, List.mem_range, Bool.and_eq_true] at h
  obtain ⟨h1, h2, h3⟩ := h
  refine ⟨h1, ?_, ?_⟩
  · unfold Done
    simp [Array.getD_eq_getD_getElem?, show i < l.size by omega] at h2
    simp [show i < l.size by omega, h2]
  · rintro k ⟨o, ho, e, he, hb, rfl⟩
    rw [ho] at h3
    simp only [Option.map_some, Option.getD_some, Array.all_eq_true_iff_forall_mem] at h3
    have := h3 e he
    rw [hb] at this
    simp [Array.getD_eq_getD_getElem?] at this
    unfold Done
    cases hq : l[e.on]? with
    | none => rw [hq] at this; simp at this
    | some b => rw [hq] at this; simp at this; rw [this]

theorem ready_of {ops : Array Oper} {l : Array Bool} (hl : l.size = ops.size) {i : Nat} (hi : i < ops.size) (hn : ¬ Done l i) (he : ∀ k, EdgeTo ops i k → Done l k) : i ∈ Region.ready .any ops l := by
  simp only [Region.ready, List.mem_filter, List.mem_range, Bool.and_eq_true]
  refine ⟨hi, ?_, ?_⟩
  · unfold Done at hn
    have h1 : i < l.size := by omega
    simp [h1] at hn
    simp [Array.getD_eq_getD_getElem?, h1, hn]
  · have ho : ops[i]? = some ops[i] := by simp [hi]
    rw [ho]
    simp only [Option.map_some, Option.getD_some, Array.all_eq_true_iff_forall_mem]
    intro e hem
    cases hb : Region.binds .any e with
    | false => rfl
    | true =>
      have := he e.on ⟨_, ho, e, hem, hb, rfl⟩
      unfold Done at this
      simp [Array.getD_eq_getD_getElem?, this]

/-- How many are not done yet. -/
def left (n : Nat) (l : Array Bool) : Nat := ((List.range n).filter fun i => !(l[i]? == some true)).length

theorem filter_lt {p q : Nat → Bool} : ∀ (xs : List Nat), (∀ x ∈ xs, p x = true → q x = true) → (∃ x ∈ xs, q x = true ∧ p x = false) → (xs.filter p).length < (xs.filter q).length := by
  intro xs
  induction xs with
  | nil => rintro _ ⟨x, hx, _⟩; simp at hx
  | cons y ys ih =>
    intro h1 h2
    have hle : ∀ zs : List Nat, (∀ x ∈ zs, p x = true → q x = true) → (zs.filter p).length ≤ (zs.filter q).length := by
      intro zs
      induction zs with
      | nil => intro _; simp
      | cons z zs ihz =>
        intro h
        have := ihz (fun x hx => h x (by simp [hx]))
        by_cases hz : p z = true
        · have := h z (by simp) hz; simp [hz, this]; omega
        · by_cases hz' : q z = true
          · simp [hz, hz']; omega
          · simp [hz, hz']; omega
    obtain ⟨x, hx, hq, hp⟩ := h2
    by_cases hxy : x = y
    · subst hxy
      have := hle ys (fun x hx => h1 x (by simp [hx]))
      simp [hq, hp]; omega
    · have := ih (fun x hx => h1 x (by simp [hx])) ⟨x, by simpa [hxy] using hx, hq, hp⟩
      by_cases hz : p y = true
      · have := h1 y (by simp) hz; simp [hz, this]; omega
      · by_cases hz' : q y = true
        · simp [hz, hz']; omega
        · simp [hz, hz']; omega

theorem left_set {n : Nat} {l : Array Bool} (hl : l.size = n) {i : Nat} (hi : i < n) (hn : ¬ Done l i) : left n (l.setIfInBounds i true) < left n l := by
  refine filter_lt _ (fun x _ hx => ?_) ⟨i, by simpa using hi, ?_, ?_⟩
  · have := (done_set (l := l) (i := i) (k := x) (by omega))
    unfold Done at this
    simp at hx ⊢
    exact fun h => hx (this.2 (.inr h))
  · unfold Done at hn; simpa using hn
  · have := (done_set (l := l) (i := i) (k := i) (by omega)).2 (.inl rfl)
    unfold Done at this
    simp [this]

theorem left_zero {n : Nat} {l : Array Bool} (h : left n l = 0) : ∀ i, i < n → Done l i := by
  intro i hi
  unfold left at h
  have h1 := List.filter_eq_nil_iff.1 (List.length_eq_zero_iff.1 h) i (by simpa using hi)
  unfold Done
  simpa using h1

theorem all_done {ops : Array Oper} {l : Array Bool} {is : List MI} {M : List Nat} (hd : DOk ops is M) (hl : l.size = ops.size) (h : Region.ready .any ops l = []) : ∀ i, i < ops.size → Done l i := by
  intro i
  induction i using Nat.strongRecOn with
  | _ i ih =>
    intro hi
    by_cases hn : Done l i
    · exact hn
    · have := ready_of hl hi hn (fun k hk => ih k (hd.edge i k hk) (by have := hd.edge i k hk; omega))
      rw [h] at this; simp at this

section
variable {P : Program} {call : Nat → List AV → St → Option (AV × St)} {base : Nat} {nt : Nat} {ops : Array Oper} {is : List MI} {M : List Nat}

theorem bit_done (hd : DOk ops is M) {l : Array Bool} (hcl : ∀ i k, Done l i → EdgeTo ops i k → Done l k) : ∀ i, i < ops.size → (Done l i ∨ ∀ k, EdgeTo ops i k → Done l k) → ∀ k, k < ops.size → bit M i k = true → Done l k := by
  intro i
  induction i using Nat.strongRecOn with
  | _ i ih =>
    intro hi h k hk hb
    obtain ⟨j, hj, h2⟩ := hd.bits i k hi hk hb
    have hji := hd.edge i j hj
    have hdj : Done l j := by
      rcases h with h | h
      · exact hcl i j h hj
      · exact h j hj
    rcases h2 with rfl | h2
    · exact hdj
    · exact ih j hji (by omega) (.inl hdj) k hk h2

/-- What holds between two operations. -/
structure Inv (γ0 : Gh) (st0 : St) (w0 : World) (base nt : Nat) (ops : Array Oper) (is : List MI) (es : Nat → Env) (Ts : Nat → St) (l : Array Bool) (γ : Gh) (eD : Env) (j : Nat) (a : Act) (w : World) : Prop where
  size : l.size = ops.size
  closed : ∀ i k, Done l i → EdgeTo ops i k → Done l k
  stage : ∀ k (hk : k < is.length), is[k].op.mut = true → (Done l k ↔ nmut (is.take k) < j)
  le : j ≤ nmut is
  step : Step γ0 st0 w0 γ (Ts j) w (fun id => id < base ∨ (base + ops.size ≤ id ∧ id < st0.next))
  rel : RelE γ (Ts j) w nt eD a
  yes : ∀ t k (hk : k < is.length), t ∈ is[k].writes → Done l k → eD t = es is.length t
  no : ∀ t, (∀ k (hk : k < is.length), t ∈ is[k].writes → ¬ Done l k) → eD t = es 0 t
  fresh : ∀ i (hi : i < is.length), ¬ Done l i → Fresh γ (Ts j) (base + i) is[i].op

theorem es_keep {es : Nat → Env}
    (hstep : ∀ i (h : i < is.length) t, t ∉ is[i].writes → es (i + 1) t = es i t) {t a b : Nat} (hab : a ≤ b) (hb : b ≤ is.length) (hw : ∀ k (hk : k < is.length), a ≤ k → k < b → t ∉ is[k].writes) : es b t = es a t := by
  induction b with
  | zero => have : a = 0 := by omega
            subst this; rfl
  | succ b ih =>
    by_cases e : a = b + 1
    · subst e; rfl
    · rw [hstep b (by omega) t (hw b (by omega) (by omega) (by omega))]
      exact ih (by omega) (by omega) (fun k hk h1 h2 => hw k hk h1 (by omega))

theorem told_keep {i : MI} {c tot : Nat} {Ts : Nat → St} {e e' : Env} (h : Told call base i c tot Ts e e') {t : Nat} (ht : t ∉ i.writes) : e' t = e t := by
  obtain ⟨g, _, h1, h2⟩ := h.told
  have hd : ∀ (x : Env) (v : AV), putD x v i.dst t = x t := fun x v => by
    cases hdst : i.dst with
    | none => rfl
    | some d =>
      simp only [putD]
      refine upd_ne _ _ _ _ ?_
      rintro rfl
      exact ht (by simp [MI.writes, hdst])
  cases g with
  | false => rw [(h1 rfl).1, hd]
  | true =>
    obtain ⟨v, e1, he, h3, h4⟩ := h2 rfl
    rw [he, hd]
    cases hm : i.op.mut with
    | true =>
      obtain ⟨e1', h5, h6⟩ := evOp_congr (e' := e) (fun _ _ => rfl) (h3 hm)
      exact (h6.2 t (fun hs => ht (by simp [MI.writes, hs]))).2
    | false => rw [(h4 hm).1]

theorem any_sound (hcall : ∀ f args st v st', call f args st = some (v, st') → CallOk P f args st v st') (hd : DOk ops is M)
    (hcomp : ∀ i (hi : i < is.length) o, ops[i]? = some o → ∃ m, compI P nt ops i o = some m ∧ m.dst = is[i].dst ∧ m.guard = is[i].guard ∧ m.op = is[i].op)
    {es : Nat → Env} {Ts : Nat → St} (ht : ∀ i (h : i < is.length), Told call base is[i] (nmut (is.take i)) (nmut is) Ts (es i) (es (i + 1)))
    {γ0 : Gh} {st0 : St} {w0 : World} (hnext : base + ops.size ≤ st0.next) {Q : Exit → Act → World → Prop}
    (hQ : ∀ γ w a, Step γ0 st0 w0 γ (Ts (nmut is)) w (fun id => id < base ∨ (base + ops.size ≤ id ∧ id < st0.next)) → RelE γ (Ts (nmut is)) w nt (es is.length) a → Q .normal a w) :
    ∀ (fuel : Nat) (l : Array Bool) (γ : Gh) (eD : Env) (j : Nat) (a : Act) (w : World), left ops.size l ≤ fuel → Inv γ0 st0 w0 base nt ops is es Ts l γ eD j a w → wpAny P .any ops Q fuel l a w := by
  have hes : ∀ {t a b : Nat}, a ≤ b → b ≤ is.length → (∀ k (hk : k < is.length), a ≤ k → k < b → t ∉ is[k].writes) → es b t = es a t := es_keep (is := is) (es := es) (fun i h t hw => told_keep (ht i h) hw)
  -- all is done
  have fin : ∀ (l : Array Bool) (γ : Gh) (eD : Env) (j : Nat) (a : Act) (w : World), (∀ i, i < ops.size → Done l i) → Inv γ0 st0 w0 base nt ops is es Ts l γ eD j a w → Q .normal a w := by
    intro l γ eD j a w hall hI
    have hj : j = nmut is := by
      by_cases h : j < nmut is
      · obtain ⟨k, hk, _, hm, hn⟩ := nmut_find (is := is) (i := is.length) (j := j) (Nat.le_refl _) (by rw [List.take_length]; exact h)
        have := (hI.stage k hk hm).1 (hall k (by have := hd.len; omega))
        omega
      · have := hI.le; omega
    subst hj
    have he : eD = es is.length := by
      funext t
      by_cases hw : ∃ k, ∃ hk : k < is.length, t ∈ is[k].writes
      · obtain ⟨k, hk, hw⟩ := hw
        exact hI.yes t k hk hw (hall k (by have := hd.len; omega))
      · rw [hI.no t (fun k hk h => absurd ⟨k, hk, h⟩ hw), hes (Nat.zero_le _) (Nat.le_refl _) (fun k hk _ _ h => hw ⟨k, hk, h⟩)]
    exact hQ γ w a hI.step (he ▸ hI.rel)
  intro fuel
  induction fuel with
  | zero =>
    intro l γ eD j a w hf hI
    have hall := left_zero (Nat.le_zero.1 hf)
    refine ⟨?_, fin l γ eD j a w hall hI⟩
    cases hr : Region.ready .any ops l with
    | nil => rfl
    | cons i r =>
      have := ready_spec hI.size (i := i) (by rw [hr]; simp)
      exact absurd (hall i this.1) this.2.1
  | succ fuel ih =>
    intro l γ eD j a w hf hI
    refine ⟨fun hr => fin l γ eD j a w (all_done hd hI.size hr) hI, fun i hi => ?_⟩
    obtain ⟨hi1, hnd, hrd⟩ := ready_spec hI.size hi
    have hil : i < is.length := by have := hd.len; omega
    have hbit := bit_done hd hI.closed
    have hbi : ∀ k, k < ops.size → bit M i k = true → Done l k := hbit i hi1 (.inr hrd)
    obtain ⟨o, ho⟩ : ∃ o, ops[i]? = some o := ⟨ops[i], by simp [hi1]⟩
    obtain ⟨m, hm, hm1, hm2, hm3⟩ := hcomp i hil o ho
    -- what the operation looks at is as it was in text order
    have reads : ∀ t ∈ is[i].reads, eD t = es i t := by
      intro t hr
      by_cases hw : ∃ k, ∃ hk : k < is.length, k ≠ i ∧ t ∈ is[k].writes
      · obtain ⟨k, hk, hki, hw⟩ := hw
        have uniq : ∀ k' (hk' : k' < is.length), k' ≠ k → t ∉ is[k'].writes := fun k' hk' hne => hd.writer k' k hk' hk hne t hw
        rcases hd.reader i k hil hk (Ne.symm hki) t hw hr with ⟨hlt, hb⟩ | ⟨hlt, hb⟩
        · rw [hI.yes t k hk hw (hbi k (by have := hd.len; omega) hb)]
          exact hes (by omega) (Nat.le_refl _) (fun k' hk' h1 _ => uniq k' hk' (by omega))
        · have hnk : ¬ Done l k := fun hk' => hnd (hbit k (by have := hd.len; omega) (.inl hk') i hi1 hb)
          rw [hI.no t (fun k' hk' hw' => by
            by_cases e : k' = k
            · subst e; exact hnk
            · exact absurd hw' (uniq k' hk' e))]
          exact (hes (Nat.zero_le _) (by omega) (fun k' hk' _ h1 => uniq k' hk' (by omega))).symm
      · have hnw : ∀ k (hk : k < is.length), t ∈ is[k].writes → k = i := fun k hk hw' => by
          by_cases e : k = i
          · exact e
          · exact absurd ⟨k, hk, e, hw'⟩ hw
        rw [hI.no t (fun k hk hw' => by rw [hnw k hk hw']; exact hnd)]
        exact (hes (Nat.zero_le _) (by omega) (fun k hk _ h1 hw' => by have := hnw k hk hw'; omega)).symm
    have hgv : gv eD is[i].guard = gv (es i) is[i].guard := gv_congr fun t h => reads t (by simp only [MI.reads, List.mem_append]; exact .inr h)
    have hop : ∀ x ∈ is[i].op.opds, x.ev eD = x.ev (es i) := by
      intro x hx
      cases x with
      | c v => rfl
      | t n => exact reads n (by simp only [MI.reads, List.mem_append, List.mem_flatMap]; exact .inl ⟨_, hx, by simp [Opd.tmps]⟩)
    -- the stage
    have stage : is[i].op.mut = true → j = nmut (is.take i) := by
      intro hmut
      have h1 : ¬ nmut (is.take i) < j := fun h => hnd ((hI.stage i hil hmut).2 h)
      have h2 : ¬ j < nmut (is.take i) := fun h => by
        obtain ⟨k, hk, hki, hkm, hkn⟩ := nmut_find (Nat.le_of_lt hil) h
        have := (hI.stage k hk hkm).1 (hbi k (by have := hd.len; omega) (hd.chain i k hil hk hki hmut hkm))
        omega
      omega
    have window : is[i].op.mut = false → is[i].op.lax = false → nmut (is.take i) ≤ j + is[i].back ∧ j ≤ nmut (is.take i) + is[i].fwd := by
      intro hmut hlax
      constructor
      · by_cases h : nmut (is.take i) ≤ j + is[i].back
        · exact h
        · obtain ⟨k, hk, hki, hkm, hkn⟩ := nmut_find (is := is) (i := i) (j := j) (Nat.le_of_lt hil) (by omega)
          have := (hI.stage k hk hkm).1 (hbi k (by have := hd.len; omega) (hd.before i k hil hk hki hmut hlax hkm (by omega)))
          omega
      · by_cases h : j ≤ nmut (is.take i) + is[i].fwd
        · exact h
        · have hle := hI.le
          obtain ⟨k, hk, _, hkm, hkn⟩ := nmut_find (is := is) (i := is.length) (j := nmut (is.take i) + is[i].fwd) (Nat.le_refl _) (by rw [List.take_length]; omega)
          have hki : i < k := by
            rcases Nat.lt_trichotomy i k with h1 | h1 | h1
            · exact h1
            · subst h1; rw [hmut] at hkm; cases hkm
            · have h2 := nmut_take hk
              have h3 := nmut_mono (is := is) (a := k + 1) (b := i) (by omega) (by omega)
              rw [hkm, if_pos rfl] at h2; omega
          have hdk : Done l k := (hI.stage k hk hkm).2 (by omega)
          exact absurd (hbit k (by have := hd.len; omega) (.inl hdk) i hi1 (hd.behind i k hil hk hki hmut hlax hkm (by omega))) hnd
    -- the lists' facts after it
    have hsize : (l.setIfInBounds i true).size = ops.size := by simp [hI.size]
    have hdone : ∀ k, Done (l.setIfInBounds i true) k ↔ k = i ∨ Done l k := fun k => done_set (by have := hI.size; omega)
    have closed' : ∀ i' k, Done (l.setIfInBounds i true) i' → EdgeTo ops i' k → Done (l.setIfInBounds i true) k := by
      intro i' k h1 h2
      rw [hdone] at h1 ⊢
      rcases h1 with rfl | h1
      · exact .inr (hrd k h2)
      · exact .inr (hI.closed i' k h1 h2)
    have hf' : left ops.size (l.setIfInBounds i true) ≤ fuel := by
      have := left_set hI.size hi1 hnd
      omega
    have after : ∀ (γ' : Gh) (e' : Env) (j' : Nat) (a' : Act) (w' : World), (is[i].op.mut = true → j' = j + 1) → (is[i].op.mut = false → j' = j) → Step γ (Ts j) w γ' (Ts j') w' (fun id => id ≠ base + i ∧ id < (Ts j).next) → RelE γ' (Ts j') w' nt e' a' →
        (∀ t ∈ is[i].writes, e' t = es (i + 1) t) → (∀ t, t ∉ is[i].writes → e' t = eD t) → wpAny P .any ops Q fuel (l.setIfInBounds i true) a' w' := by
      intro γ' e' j' a' w' hj1 hj2 hst hE' hw1 hw2
      refine ih _ γ' e' j' a' w' hf' ⟨hsize, closed', ?_, ?_, ?_, hE', ?_, ?_, ?_⟩
      · intro k hk hkm
        rw [hdone]
        cases hmi : is[i].op.mut with
        | true =>
          have hs := stage hmi
          rw [hj1 hmi]
          constructor
          · rintro (rfl | h)
            · omega
            · have := (hI.stage k hk hkm).1 h; omega
          · intro h
            by_cases e : nmut (is.take k) < j
            · exact .inr ((hI.stage k hk hkm).2 e)
            · left
              rcases Nat.lt_trichotomy k i with h1 | h1 | h1
              · have h2 := nmut_take hk
                have h3 := nmut_mono (is := is) (a := k + 1) (b := i) (by omega) (by omega)
                rw [hkm, if_pos rfl] at h2; omega
              · exact h1
              · have h2 := nmut_take hil
                have h3 := nmut_mono (is := is) (a := i + 1) (b := k) (by omega) (by omega)
                rw [hmi, if_pos rfl] at h2; omega
        | false =>
          rw [hj2 hmi, ← hI.stage k hk hkm]
          constructor
          · rintro (rfl | h)
            · rw [hmi] at hkm; cases hkm
            · exact h
          · exact .inr
      · cases hmi : is[i].op.mut with
        | true =>
          have h2 := nmut_take hil
          have h3 := nmut_mono (is := is) (a := i + 1) (b := is.length) (by omega) (Nat.le_refl _)
          rw [List.take_length] at h3
          rw [hmi, if_pos rfl] at h2
          rw [hj1 hmi, stage hmi]; omega
        | false => rw [hj2 hmi]; exact hI.le
      · exact hI.step.trans hst (fun id h => h) (fun id h => ⟨by omega, by have := hI.step.next; omega⟩)
      · intro t k hk hw hdk
        rw [hdone] at hdk
        by_cases hki : k = i
        · subst hki
          rw [hw1 t hw]
          exact (hes (by omega) (Nat.le_refl _) (fun k' hk' h1 _ => hd.writer k' k hk' hk (by omega) t hw)).symm
        · rw [hw2 t (hd.writer i k hil hk (Ne.symm hki) t hw)]
          exact hI.yes t k hk hw (hdk.resolve_left hki)
      · intro t hno
        rw [hw2 t (fun hw => hno i hil hw ((hdone i).2 (.inl rfl)))]
        exact hI.no t (fun k hk hw hdk => hno k hk hw ((hdone k).2 (.inr hdk)))
      · intro k hk hndk
        rw [hdone] at hndk
        have hki : k ≠ i := fun h => hndk (.inl h)
        exact (hI.fresh k hk (fun h => hndk (.inr h))).mono hst ⟨by omega, by have := hI.step.next; have := hd.len; omega⟩
    have hputd : ∀ (x y : Env) (v : AV) (t : Nat), (is[i].dst ≠ some t → x t = y t) → putD x v is[i].dst t = putD y v is[i].dst t := fun x y v t h => by
      cases hdst : is[i].dst with
      | none => exact h (by simp [hdst])
      | some d =>
        simp only [putD, upd]
        split
        · rfl
        · rename_i hne
          exact h (by rw [hdst]; intro h'; exact hne (Option.some.inj h').symm)
    have hputn : ∀ (x : Env) (v : AV) (t : Nat), t ∉ is[i].writes → putD x v is[i].dst t = x t := fun x v t h => by
      cases hdst : is[i].dst with
      | none => rfl
      | some d =>
        simp only [putD]
        refine upd_ne _ _ _ _ ?_
        rintro rfl
        exact h (by simp [MI.writes, hdst])
    obtain ⟨g, hg, hfalse, htrue⟩ := (ht i hil).told
    refine one_sound hcall hm ho hI.step.rel hI.rel (Nat.le_trans hnext hI.step.next) (by rw [hm3]; exact hI.fresh i hil hnd) (g := g) (by rw [hm2, hgv]; exact hg) (fun hgf a' hE' => ?_) (fun hgt => ?_)
    · -- skipped
      rw [hm1] at hE'
      obtain ⟨he, hsame⟩ := hfalse hgf
      have hw1 : ∀ t ∈ is[i].writes, putD eD .junk is[i].dst t = es (i + 1) t := fun t hw => by
        rw [he]
        refine hputd _ _ _ _ (fun hne => ?_)
        have hs : t ∈ is[i].op.slots := by
          simp only [MI.writes, List.mem_append, Option.mem_toList] at hw
          exact hw.resolve_left hne
        refine reads t ?_
        simp only [MI.reads, List.mem_append, List.mem_flatMap]
        refine .inl ⟨.t t, ?_, by simp [Opd.tmps]⟩
        revert hs
        generalize is[i].op = op
        have pl : ∀ p : Pl, t ∈ p.slots → Opd.t t ∈ p.opds := fun p h => by
          cases p <;> simp [Pl.slots, Pl.opds] at h ⊢; exact h
        cases op <;> simp only [MOp.slots, List.not_mem_nil, false_imp_iff]
        · rename_i sz x y p
          cases p with
          | none => simp
          | some p => intro h; simp only [MOp.opds, Option.toList_some, List.flatMap_cons, List.flatMap_nil, List.append_nil, List.mem_cons]; exact .inr (.inr (pl p h))
        · intro h; simp only [MOp.opds, List.mem_cons]; exact .inr (pl _ h)
      by_cases hmi : is[i].op.mut = true
      · have hs := stage hmi
        have hsj : Ts (j + 1) = Ts j := by rw [hs]; exact hsame hmi
        refine after γ _ (j + 1) a' w (fun _ => rfl) (fun h => by rw [hmi] at h; cases h) (by rw [hsj]; exact Step.refl hI.step.rel _) (by rw [hsj]; exact hE') hw1 (fun t h => hputn _ _ _ h)
      · exact after γ _ j a' w (fun h => absurd h hmi) (fun _ => rfl) (Step.refl hI.step.rel _) hE' hw1 (fun t h => hputn _ _ _ h)
    · -- performed
      obtain ⟨v, e1, he, h1, h2⟩ := htrue hgt
      rw [hm3, hm1]
      have run : ∃ j', (is[i].op.mut = true → j' = j + 1) ∧ (is[i].op.mut = false → j' = j) ∧ evOp call base (es i) (Ts j) is[i].op = some (v, e1, Ts j') := by
        cases hmi : is[i].op.mut with
        | true => exact ⟨j + 1, fun _ => rfl, (fun h => by cases h), (by rw [stage hmi]; exact h1 hmi)⟩
        | false =>
          refine ⟨j, (fun h => by cases h), fun _ => rfl, ?_⟩
          obtain ⟨rfl, h3, h4⟩ := h2 hmi
          cases hlx : is[i].op.lax with
          | true => exact lax_any hlx h3
          | false =>
            obtain ⟨h5, h6⟩ := window hmi hlx
            exact h4 j h5 h6 hI.le
      obtain ⟨j', hj1, hj2, hrun⟩ := run
      obtain ⟨e1', hrun', hsl, hns⟩ := evOp_congr hop hrun
      refine ⟨v, e1', Ts j', hrun', fun γ' w' a' hst hE' => after γ' _ j' a' w' hj1 hj2 hst hE' (fun t hw => ?_) (fun t hw => ?_)⟩
      · rw [he]
        refine hputd _ _ _ _ (fun hne => ?_)
        simp only [MI.writes, List.mem_append, Option.mem_toList] at hw
        exact hsl t (hw.resolve_left hne)
      · rw [hputn _ _ _ hw]
        exact (hns t (fun h => hw (by simp only [MI.writes, List.mem_append]; exact .inr h))).1

end
end Go.Ev
