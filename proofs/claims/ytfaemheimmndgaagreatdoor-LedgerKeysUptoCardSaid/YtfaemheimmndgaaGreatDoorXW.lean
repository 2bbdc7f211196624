/- Drawn regions: one operation. Part of a verified reckoner of runs: no condition. -/
import Derived.Test.YtfaemheimmndgaaGreatDoorXV
set_option linter.unusedVariables false
set_option linter.unusedSimpArgs false
namespace Go.Proofs.YtfaemheimmndgaaGreatDoor.XI
noncomputable section

/-! ### 17. Drawn regions: one operation, then all -/
section
variable {C : Cx} {is : List Inf} {R : RS} {fr0 : Fr} {F : Nat}
variable {M : Mem} {σ0 σ σ' : Nat → Loc} {A0 A A' : Nat → Prop} {w0 w w' : World} {h0 hk hk' hp hp' : H} {n k k' i : Nat} {D D' : Nat → Bool} {a : Act} {inf : Inf} {row : Row} {u : Value}

theorem cond_and (x y : Bool) : cond x y false = (x && y) := by cases x <;> rfl
theorem gD_in (pf : PF C is R fr0 F) {f b : Nat} {y : ABlk} (hx : (f, b, some y) ∈ R.fs) (h1 : D f = true) (h2 : unm C.cms k f = true) : (gD C R D k hk).get b = some y :=
  hput_in _ R.fs hk f b y pf.nd hx (by rw [h1, h2]; rfl)
theorem gD_out {b : Nat} (h : ∀ f y, (f, b, some y) ∈ R.fs → D f = true → unm C.cms k f = false) : (gD C R D k hk).get b = hk.get b :=
  hput_out _ R.fs hk b fun f y hx => by
    rw [cond_and]
    cases hD : D f with
    | false => rfl
    | true => rw [h f y hx hD]; rfl
theorem gD_same : (gD C R D k hk).next = hk.next ∧ (gD C R D k hk).wb = hk.wb ∧ (gD C R D k hk).st = hk.st := hput_same _ R.fs hk

theorem gD_le (pf : PF C is R fr0 F) (hn : ∀ x ∈ R.fs, unm C.cms k x.1 = true → hk.get x.2.1 = none) (hs : ∀ f, D f = true → D' f = true) (b : Nat) (x : ABlk) (e : (gD C R D k hk).get b = some x) : (gD C R D' k hk).get b = some x := by
  by_cases h : ∃ f y, (f, b, some y) ∈ R.fs ∧ D' f = true ∧ unm C.cms k f = true
  · obtain ⟨f, y, h1, h2, h3⟩ := h
    rw [gD_in pf h1 h2 h3]
    by_cases hd : D f = true
    · rw [gD_in pf h1 hd h3] at e; exact e
    · rw [gD_out (fun f' y' hx hd' => by
        have := nd_id pf.nd h1 hx rfl
        cases this
        exact absurd hd' hd), hn _ h1 h3] at e
      cases e
  · have h' : ∀ f y, (f, b, some y) ∈ R.fs → D' f = true → unm C.cms k f = false := fun f y hx hd => by
      rw [← Bool.not_eq_true]; exact fun e => h ⟨f, y, hx, hd, e⟩
    rw [gD_out h']
    rw [gD_out (fun f y hx hd => h' f y hx (hs f hd))] at e
    exact e

theorem J.part (pf : PF C is R fr0 F) (j0 : J0 C A0 h0) (j : J C is R fr0 M σ0 A0 w0 h0 n D k hk a w σ A) (hdep : ∀ t, D' t = true → D t = true) :
    RelH σ A M w (gD C R D' k hk) ∧ ∀ b x, (gD C R D' k hk).get b = some x → (gD C R D k hk).get b = some x := by
  have hle := gD_le pf j.not hdep
  refine ⟨j.rel.part hle ?_ ?_ ?_, hle⟩
  · rw [gD_same.1, gD_same.2.2]
    have := j.rel.bound
    rw [gD_same.1, gD_same.2.2] at this
    exact this
  · rw [gD_same.1, gD_same.2.1, j.wb]
    have h1 := j.next0; have h2 := j0.wb; have h3 := j0.n0
    omega
  · rw [gD_same.2.2, j.st]; exact pf.posm

theorem hputA_gD (m : Nat) : hputA C.cms m k hk R.fs = gD C R (tb m) k hk := rfl

/-- The same heap, whether this one is done or not. -/
theorem gD_still (h : ∀ f b y, (f, b, some y) ∈ R.fs → f ≠ i) (hD' : ∀ t, D' t = true ↔ t = i ∨ D t = true) (b : Nat) : (gD C R D' k hk).get b = (gD C R D k hk).get b :=
  hput_congr R.fs hk hk (fun f y hx => by
    have : D' f = D f := by
      rw [Bool.eq_iff_iff, hD']
      exact ⟨fun e => e.resolve_left (h f b y hx), .inr⟩
    rw [this]) rfl

theorem J.mask (j : J C is R fr0 M σ0 A0 w0 h0 n D k hk a w σ A) (pf : PF C is R fr0 F) (hi : is[i]? = some inf) (hD : D i = false) :
    (∀ (q : Nat) (c : Nat × Nat), C.cms[q]? = some c → q < k → tb c.2 i = false) := by
  intro q c hc hq
  rw [← Bool.not_eq_true]
  intro e
  obtain ⟨inf', h1, h2, h3, h4⟩ := pf.cat hc
  have := j.clo c.1 inf' h1 ((j.chn q c hc).2 hq) i (by rw [h3]; exact e)
  rw [hD] at this
  cases this

theorem PF.ne_fre (pf : PF C is R fr0 F) (hi : is[i]? = some inf) (hk : inf.k ≠ .fre) : ∀ f b y, (f, b, some y) ∈ R.fs → f ≠ i := by
  rintro f b y hx rfl
  obtain ⟨inf', h1, h2⟩ := pf.fre _ hx
  rw [hi] at h1
  cases h1
  exact hk h2

/-- An operation that leaves the heap as it is. -/
theorem J.still (pf : PF C is R fr0 F) (j0 : J0 C A0 h0) (j : J C is R fr0 M σ0 A0 w0 h0 n D k hk a w σ A) (hi : is[i]? = some inf) (hr : R.rows[i]? = some row) (hD : D i = false) (hdep : ∀ t, tb inf.m t = true → D t = true)
    (hD' : ∀ t, D' t = true ↔ t = i ∨ D t = true) (hdst : ∀ t, row.d = some t → t < n) (hch : inf.k ≠ .ch) (hfs : ∀ f b y, (f, b, some y) ∈ R.fs → f ≠ i)
    (hle : ∀ b x, hp.get b = some x → (gD C R D k hk).get b = some x) (hnx : hp.next = hk.next) (s : Step σ A w hp σ' A' w' hp) (r' : RelH σ' A' M w' hp) (hv : RelV σ' A' M row.v u) :
    J C is R fr0 M σ0 A0 w0 h0 n D' k hk (a.put row.d u) w' σ' A' := by
  have hg := gD_still (C := C) (R := R) (k := k) (hk := hk) hfs hD'
  refine j.next pf j0 hi hr hD hdep hD' hdst hle s r' hv j.hat (fun b => ?_) j.next0 j.nmod j.st j.wb (fun q c hc => ?_) (fun b hb => ?_) (Nat.le_refl _) j.not (fun b _ => hg b) (fun b hb => .inl (by rw [hg]; exact hb))
  · rw [hg]
    cases e : hp.get b with
    | none => simp
    | some x => simp [hle b x e]
  · obtain ⟨inf', h1, h2, _⟩ := pf.cat hc
    rw [← j.chn q c hc, hD']
    refine ⟨fun e => e.resolve_left fun e => ?_, .inr⟩
    rw [e, hi] at h1
    cases h1
    exact hch h2
  · rcases s.fresh b hb with h | ⟨h1, h2, h3⟩
    · exact .inl h
    · omega

/-- The next one of the chain. -/
theorem J.chained (pf : PF C is R fr0 F) (j0 : J0 C A0 h0) (j : J C is R fr0 M σ0 A0 w0 h0 n D k hk a w σ A) (hi : is[i]? = some inf) (hr : R.rows[i]? = some row) (hD : D i = false) (hdep : ∀ t, tb inf.m t = true → D t = true)
    (hD' : ∀ t, D' t = true ↔ t = i ∨ D t = true) (hdst : ∀ t, row.d = some t → t < n) (hch : inf.k = .ch) (hkA : kA is i = k) (hat : R.hs[k + 1]? = some hk')
    (s : Step σ A w (gD C R (tb inf.m) k hk) σ' A' w' hk') (r' : RelH σ' A' M w' hk') (hv : RelV σ' A' M row.v u) :
    J C is R fr0 M σ0 A0 w0 h0 n D' (k + 1) hk' (a.put row.d u) w' σ' A' := by
  obtain ⟨rp, hle⟩ := j.part pf j0 hdep
  have hck : C.cms[k]? = some (i, inf.m) := by rw [← hkA]; exact pf.ccat hi hch
  obtain ⟨e1, e2, e3⟩ := gD_same (C := C) (R := R) (D := tb inf.m) (k := k) (hk := hk)
  have hfs := pf.ne_fre hi (by rw [hch]; simp)
  have hunm : ∀ f, unm C.cms (k + 1) f = true ↔ unm C.cms k f = true ∧ tb inf.m f = false := by
    intro f
    rw [unm_iff, unm_iff]
    constructor
    · exact fun h => ⟨fun q c hc hq => h q c hc (by omega), h k _ hck (by omega)⟩
    · rintro ⟨h1, h2⟩ q c hc hq
      rcases Nat.lt_or_ge q k with h | h
      · exact h1 q c hc h
      · have : q = k := by omega
        subst this
        rw [hck] at hc
        cases hc
        exact h2
  have hnot : ∀ x ∈ R.fs, unm C.cms (k + 1) x.1 = true → hk'.get x.2.1 = none := by
    intro x hx hu
    obtain ⟨u1, u2⟩ := (hunm _).1 hu
    have h1 : (gD C R (tb inf.m) k hk).get x.2.1 = none := by
      rw [gD_out (fun f y hy hd => ?_), j.not x hx u1]
      have := nd_id pf.nd hx hy rfl
      have e : x.1 = f := congrArg Prod.fst this
      rw [e] at u2
      rw [u2] at hd; cases hd
    rcases s.only _ h1 with h | ⟨_, h⟩
    · exact h
    · rw [e1, e3, j.st, j.nmod] at h
      exact absurd h (pf.idM hx)
  have hnext : hk.next ≤ hk'.next := by have := s.next; rw [e1] at this; exact this
  have hform : ∀ b, (gD C R D' (k + 1) hk').get b = if (hk'.get b).isSome then hk'.get b else if ((gD C R (tb inf.m) k hk).get b).isSome then none else (gD C R D k hk).get b := by
    intro b
    by_cases h : ∃ f y, (f, b, some y) ∈ R.fs ∧ D' f = true ∧ unm C.cms (k + 1) f = true
    · obtain ⟨f, y, h1, h2, h3⟩ := h
      obtain ⟨u1, u2⟩ := (hunm _).1 h3
      have hd : D f = true := ((hD' f).1 h2).resolve_left (hfs f b y h1)
      rw [gD_in pf h1 h2 h3, hnot _ h1 h3]
      have hn : (gD C R (tb inf.m) k hk).get b = none := by
        rw [gD_out (fun f' y' hy hd' => ?_)]
        · exact j.not _ h1 u1
        · have := nd_id pf.nd h1 hy rfl
          cases this
          rw [u2] at hd'; cases hd'
      rw [hn, gD_in pf h1 hd u1]
      simp
    · have h' : ∀ f y, (f, b, some y) ∈ R.fs → D' f = true → unm C.cms (k + 1) f = false := fun f y hx hd => by
        rw [← Bool.not_eq_true]; exact fun e => h ⟨f, y, hx, hd, e⟩
      rw [gD_out h']
      cases hh : hk'.get b with
      | some x => simp
      | none =>
        cases hm : (gD C R (tb inf.m) k hk).get b with
        | some x => simp
        | none =>
          simp only [Option.isSome_none, Bool.false_eq_true, if_false]
          by_cases hS : ∃ f y, (f, b, some y) ∈ R.fs ∧ D f = true ∧ unm C.cms k f = true
          · obtain ⟨f, y, h1, h2, h3⟩ := hS
            have hm' : tb inf.m f = true := by
              have := h' f y h1 ((hD' f).2 (.inr h2))
              cases ht : tb inf.m f with
              | true => rfl
              | false => rw [(hunm f).2 ⟨h3, ht⟩] at this; cases this
            rw [gD_in pf h1 hm' h3] at hm
            cases hm
          · have h'' : ∀ f y, (f, b, some y) ∈ R.fs → D f = true → unm C.cms k f = false := fun f y hx hd => by
              rw [← Bool.not_eq_true]; exact fun e => hS ⟨f, y, hx, hd, e⟩
            rw [gD_out h'']
            rw [gD_out (fun f y hx hd => h'' f y hx (hdep f hd))] at hm
            exact hm.symm
  have hst' : hk'.st = C.stm := by rw [s.st, e3]; exact j.st
  refine j.next pf j0 hi hr hD hdep hD' hdst hle s r' hv hat hform (by have := j.next0; omega) ?_ hst' (by rw [s.wb, e2]; exact j.wb) (fun q c hc => ?_) (fun b hb => ?_) hnext hnot (fun b hb => ?_) (fun b hb => ?_)
  · have := s.mod
    rw [e1, e3, j.st] at this
    rw [this]; exact j.nmod
  · rw [hD']
    constructor
    · rintro (e | e)
      · obtain ⟨inf', h1, h2, h3, h4⟩ := pf.cat hc
        rw [e] at h4
        omega
      · have := (j.chn q c hc).1 e
        omega
    · intro h
      rcases Nat.lt_or_ge q k with h1 | h1
      · exact .inr ((j.chn q c hc).2 h1)
      · have : q = k := by omega
        subst this
        rw [hck] at hc
        cases hc
        exact .inl rfl
  · rcases s.fresh b hb with h | ⟨h1, h2, h3⟩
    · exact .inl h
    · rw [e1] at h1
      rw [e1, e3, j.st, j.nmod] at h3
      exact .inr (.inr ⟨by have := j.next0; omega, h2, h3⟩)
  · rw [hform]
    have hl := s.low b (by rw [e2, j.wb]; exact hb)
    rw [hl]
    cases e : (gD C R (tb inf.m) k hk).get b with
    | none => simp
    | some x => simp [hle b x e]
  · rw [hform]
    have hm : (gD C R (tb inf.m) k hk).get b = none := by
      cases e : (gD C R (tb inf.m) k hk).get b with
      | none => rfl
      | some x => rw [hle b x e] at hb; cases hb
    rw [hm, hb]
    rcases s.only b hm with h | ⟨h1, h2⟩
    · left; rw [h]; rfl
    · rw [e1] at h1
      rw [e1, e3, j.st, j.nmod] at h2
      exact .inr ⟨by have := j.next0; omega, pf.mod h2⟩

/-- One that makes a block beside the chain. -/
theorem J.freed (pf : PF C is R fr0 F) (j0 : J0 C A0 h0) (j : J C is R fr0 M σ0 A0 w0 h0 n D k hk a w σ A) (hi : is[i]? = some inf) (hr : R.rows[i]? = some row) (hD : D i = false) (hdep : ∀ t, tb inf.m t = true → D t = true)
    (hD' : ∀ t, D' t = true ↔ t = i ∨ D t = true) (hdst : ∀ t, row.d = some t → t < n) (hfre : inf.k = .fre) {id : Nat} {hf : H} (hx : (i, id, hf.get id) ∈ R.fs) (hnx : hf.next ≤ id + C.stm)
    (hrh : RelH σ A M w ⟨.e, id, 0, C.stm⟩) (s : Step σ A w ⟨.e, id, 0, C.stm⟩ σ' A' w' hf) (r' : RelH σ' A' M w' hf) (hv : RelV σ' A' M row.v u) :
    J C is R fr0 M σ0 A0 w0 h0 n D' k hk (a.put row.d u) w' σ' A' := by
  have hemp : ∀ b, H.get ⟨.e, id, 0, C.stm⟩ b = none := fun b => T.get_e b
  -- nothing lies in the new heap but the one block
  have hone : ∀ b x, hf.get b = some x → b = id := by
    intro b x e
    have hA' := r'.dom b x e
    rcases s.only b (hemp b) with h | ⟨h1, h2⟩
    · rw [h] at e; cases e
    · have h1 : id ≤ b := h1
      have h2 : b % C.stm = id % C.stm := h2
      rcases s.fresh b hA' with h | ⟨h3, h4, h5⟩
      · rcases hrh.bound b h with h | h
        · have h : b < id := h; omega
        · exact absurd h2 h
      · have h6 := Nat.sub_mod_eq_zero_of_mod_eq h2
        rw [Nat.mod_eq_of_lt (by omega)] at h6
        omega
  have hunm : unm C.cms k i = true := unm_iff.2 (j.mask pf hi hD)
  have hfresh : ∀ b, A' b → A b ∨ b = id := by
    intro b hb
    rcases s.fresh b hb with h | ⟨h1, h2, h3⟩
    · exact .inl h
    · have h1 : id ≤ b := h1
      have h3 : b % C.stm = id % C.stm := h3
      have h6 := Nat.sub_mod_eq_zero_of_mod_eq h3
      rw [Nat.mod_eq_of_lt (by omega)] at h6
      exact .inr (by omega)
  have hgid : (gD C R D k hk).get id = none := by
    rw [gD_out (fun f y hy hd => ?_), j.not _ hx hunm]
    have := nd_id pf.nd hx hy rfl
    have e : i = f := congrArg Prod.fst this
    rw [← e, hD] at hd; cases hd
  have hform : ∀ b, (gD C R D' k hk).get b = if (hf.get b).isSome then hf.get b else if (H.get ⟨.e, id, 0, C.stm⟩ b).isSome then none else (gD C R D k hk).get b := by
    intro b
    rw [hemp]
    simp only [Option.isSome_none, Bool.false_eq_true, if_false]
    by_cases hb : b = id
    · subst hb
      cases hy : hf.get b with
      | some y =>
        rw [hy] at hx
        rw [gD_in pf hx ((hD' i).2 (.inl rfl)) hunm]
        simp
      | none =>
        simp only [Option.isSome_none, Bool.false_eq_true, if_false]
        rw [hgid, gD_out (fun f y hy' hd => ?_), j.not _ hx hunm]
        have := nd_id pf.nd hx hy' rfl
        rw [hy] at this
        cases this
    · have hn : hf.get b = none := by
        cases e : hf.get b with
        | none => rfl
        | some x => exact absurd (hone b x e) hb
      rw [hn]
      simp only [Option.isSome_none, Bool.false_eq_true, if_false]
      refine hput_congr R.fs hk hk (fun f y hy => ?_) rfl
      have : D' f = D f := by
        rw [Bool.eq_iff_iff, hD']
        refine ⟨fun e => e.resolve_left fun e => ?_, .inr⟩
        have := pw_idx pf.ix hx hy e.symm
        exact hb (congrArg (fun z : Nat × Nat × Option ABlk => z.2.1) this).symm
      rw [this]
  obtain ⟨l1, l2⟩ := pf.idlt hx
  have l1 : C.n0 < id := l1
  refine j.next pf j0 hi hr hD hdep hD' hdst (fun b x e => by rw [hemp] at e; cases e) s r' hv j.hat hform j.next0 j.nmod j.st j.wb (fun q c hc => ?_) (fun b hb => ?_) (Nat.le_refl _) j.not (fun b hb => ?_) (fun b hb => ?_)
  · obtain ⟨inf', h1, h2, _⟩ := pf.cat hc
    rw [← j.chn q c hc, hD']
    refine ⟨fun e => e.resolve_left fun e => ?_, .inr⟩
    rw [e, hi] at h1
    cases h1
    rw [hfre] at h2; cases h2
  · rcases hfresh b hb with h | h
    · exact .inl h
    · exact .inr (.inl ⟨_, hx, h.symm, (hD' i).2 (.inl rfl)⟩)
  · rw [hform, hemp]
    have hbn : b ≠ id := by have := j0.wb; have := j0.n0; omega
    have hn : hf.get b = none := by
      cases e : hf.get b with
      | none => rfl
      | some x => exact absurd (hone b x e) hbn
    rw [hn]; simp
  · rw [hform, hemp, hb]
    cases e : hf.get b with
    | none => left; simp
    | some x =>
      right
      rw [hone b x e]
      exact ⟨by omega, pf.idS hx⟩

theorem J.frame_e (pf : PF C is R fr0 F) (j0 : J0 C A0 h0) (j : J C is R fr0 M σ0 A0 w0 h0 n D k hk a w σ A) (hD : D i = false) {id : Nat} {x : Option ABlk} (hx : (i, id, x) ∈ R.fs) : RelH σ A M w ⟨.e, id, 0, C.stm⟩ := by
  obtain ⟨l1, l2⟩ := pf.idlt hx
  have l1 : C.n0 < id := l1
  refine j.rel.part (fun b x e => ?_) (fun b hb => ?_) (Nat.zero_le _) pf.posm
  · have : H.get ⟨.e, id, 0, C.stm⟩ b = none := T.get_e b
    rw [this] at e; cases e
  · show b < id ∨ b % C.stm ≠ id % C.stm
    rcases j.nums b hb with h | ⟨y, hy, e, hd⟩ | ⟨h1, h2, h3⟩
    · rcases j0.bound b h with h | h
      · rw [← j0.n0] at h; exact .inl (by omega)
      · rw [← j0.n0, ← j0.s0] at h
        exact .inr fun e => h (by rw [pf.mod e]; exact pf.idS hx)
    · right
      intro e'
      rw [← e] at e'
      have := pf.idE hy hx e'
      have := nd_id pf.nd hy hx this
      subst this
      rw [hD] at hd; cases hd
    · right
      rw [h3]
      exact fun e => pf.idM hx e.symm

/-- One operation. -/
theorem J.op (pf : PF C is R fr0 F) (ok : C.E.Ok) (hc : CallOk C.E M C.call) (j0 : J0 C A0 h0) (j : J C is R fr0 M σ0 A0 w0 h0 n D k hk a w σ A) {ops : Array Oper} (hall : C.all = ops.toList) (hi : is[i]? = some inf) (hoi : ops[i]? = some inf.o)
    (hD : D i = false) (hdep : ∀ t, tb inf.m t = true → D t = true) (hD' : ∀ t, D' t = true ↔ t = i ∨ D t = true) (hdst : ∀ t, inf.o.dst = some t → t < n) {Q : Exit → Act → World → Prop} {K : Act → World → Prop}
    (hK : ∀ (a' : Act) (w' : World) (σ' : Nat → Loc) (A' : Nat → Prop) (k' : Nat) (hk' : H), J C is R fr0 M σ0 A0 w0 h0 n D' k' hk' a' w' σ' A' → a'.defers = a.defers → K a' w') {r : Option Nat} : wpOpIn (FR r) 0 C.E.P ops Q i K a w := by
  obtain ⟨row, hr, fsc, fsr, f1, f2, hd, hw, hun, hkind⟩ := pf.rows i inf hi
  have hsame := j.same pf hi hr hD hdep
  have hw' : wantedG C.all (rowsF D R.rows 0 fr0) inf.o.guard = some row.b := by rw [wantedG_congr hsame]; exact hw
  rw [hall] at hw'
  unfold wpOpIn
  rw [hoi]
  simp only
  rw [wantedG_ok j.fr hw']
  have hdst' : ∀ t, row.d = some t → t < n := by rw [hd]; exact hdst
  obtain ⟨rp, hle⟩ := j.part pf j0 hdep
  obtain ⟨e1, e2, e3⟩ := gD_same (C := C) (R := R) (D := tb inf.m) (k := k) (hk := hk)
  have hhp : hputA C.cms inf.m k hk fsc = gD C R (tb inf.m) k hk := by rw [hputA_fs f1 f2 (pf.lt i inf hi)]; rfl
  have hkA : inf.k = .ch → kA is i = k := by
    intro hch
    have hc := pf.ccat hi hch
    rcases Nat.lt_trichotomy (kA is i) k with h | h | h
    · have := (j.chn _ _ hc).2 h
      rw [hD] at this; cases this
    · exact h
    · have hlt : k < C.cms.length := by have := (List.getElem?_eq_some_iff.1 hc).1; omega
      have hk0 := pf.chain k (kA is i) C.cms[k] _ h (List.getElem?_eq_getElem hlt) hc
      have := (j.chn k _ (List.getElem?_eq_getElem hlt)).1 (hdep _ hk0)
      omega
  have hch : inf.k = .ch → ∃ hk', R.hs[k + 1]? = some hk' ∧ (if row.b then opA C.E C.call inf.o.op row.fr (gD C R (tb inf.m) k hk) = some (row.v, hk') else hk' = gD C R (tb inf.m) k hk) := by
    intro hch
    unfold KindC at hkind
    rw [hch] at hkind
    obtain ⟨hk1, hk', g1, g2, g3⟩ := hkind
    rw [hkA hch] at g1 g2 g3
    rw [j.hat] at g1
    cases g1
    rw [hhp] at g3
    exact ⟨hk', g2, g3⟩
  cases hb : row.b with
  | false =>
    simp only [Bool.false_eq_true, if_false]
    refine ⟨fun _ _ => trivial, ?_⟩
    rw [← hd]
    have hv : RelV σ A M row.v undef := by rw [hun hb]; exact .undef
    cases hkk : inf.k with
    | ch =>
      obtain ⟨hk', g1, g2⟩ := hch hkk
      rw [hb] at g2
      simp only [Bool.false_eq_true, if_false] at g2
      subst g2
      exact hK _ _ _ _ _ _ (j.chained pf j0 hi hr hD hdep hD' hdst' hkk (hkA hkk) g1 (Step.refl _ _ _ _) rp hv) (defers_put _ _ _)
    | fre =>
      unfold KindC at hkind
      rw [hkk] at hkind
      obtain ⟨id, hf, g1, g2, g3⟩ := hkind
      rw [hb] at g3
      simp only [Bool.false_eq_true, if_false] at g3
      have hrh := j.frame_e pf j0 hD g1
      subst g3
      exact hK _ _ _ _ _ _ (j.freed pf j0 hi hr hD hdep hD' hdst' hkk g1 g2 hrh (Step.refl _ _ _ _) hrh hv) (defers_put _ _ _)
    | bl => exact hK _ _ _ _ _ _ (j.still pf j0 hi hr hD hdep hD' hdst' (by rw [hkk]; simp) (pf.ne_fre hi (by rw [hkk]; simp)) hle e1 (Step.refl _ _ _ _) rp hv) (defers_put _ _ _)
    | rd => exact hK _ _ _ _ _ _ (j.still pf j0 hi hr hD hdep hD' hdst' (by rw [hkk]; simp) (pf.ne_fre hi (by rw [hkk]; simp)) hle e1 (Step.refl _ _ _ _) rp hv) (defers_put _ _ _)
  | true =>
    simp only [if_true]
    cases hkk : inf.k with
    | ch =>
      obtain ⟨hk', g1, g2⟩ := hch hkk
      rw [hb] at g2
      simp only [if_true] at g2
      rw [← opA_congr hsame] at g2
      refine opA_ok ok hc j.fr rp g2 fun u w' σ' A' s1 s2 s3 => ?_
      rw [← hd]
      exact hK _ _ _ _ _ _ (j.chained pf j0 hi hr hD hdep hD' hdst' hkk (hkA hkk) g1 s1 s3 s2) (defers_put _ _ _)
    | fre =>
      unfold KindC at hkind
      rw [hkk] at hkind
      obtain ⟨id, hf, g1, g2, g3⟩ := hkind
      rw [hb] at g3
      simp only [if_true] at g3
      have hrh := j.frame_e pf j0 hD g1
      rw [← opA_congr hsame] at g3
      refine opA_ok ok hc j.fr hrh g3 fun u w' σ' A' s1 s2 s3 => ?_
      rw [← hd]
      exact hK _ _ _ _ _ _ (j.freed pf j0 hi hr hD hdep hD' hdst' hkk g1 g2 hrh s1 s3 s2) (defers_put _ _ _)
    | bl =>
      unfold KindC at hkind
      rw [hkk] at hkind
      obtain ⟨g, hg⟩ := hkind hb
      have hbl : blind inf.o.op = true := by have := pf.kok i inf hi; unfold kOk at this; rw [hkk] at this; exact this
      rw [blind_any hbl g (gD C R (tb inf.m) k hk)] at hg
      have hx : opA C.E C.call inf.o.op row.fr (gD C R (tb inf.m) k hk) = some (row.v, gD C R (tb inf.m) k hk) := by unfold opA; rw [rdo_ok hg]
      rw [← opA_congr hsame] at hx
      refine opA_ok ok hc j.fr rp hx fun u w' σ' A' s1 s2 s3 => ?_
      rw [← hd]
      exact hK _ _ _ _ _ _ (j.still pf j0 hi hr hD hdep hD' hdst' (by rw [hkk]; simp) (pf.ne_fre hi (by rw [hkk]; simp)) hle e1 s1 s3 s2) (defers_put _ _ _)
    | rd =>
      have hkok := pf.kok i inf hi
      unfold kOk at hkok
      rw [hkk] at hkok
      have hkok : al (fun j => cond (poss C.cms i inf.m j) (bNot (al (fun x => bNot (Nat.beq x j)) inf.ks)) true) (filt (fun _ => true) (ln C.cms)) = true := hkok
      rw [al_eq, List.all_eq_true] at hkok
      have hkle : k ≤ C.cms.length := by have := (List.getElem?_eq_some_iff.1 j.hat).1; rw [pf.hlen] at this; omega
      have hks := hkok k (mem_filt (by rw [ln_eq]; exact hkle) rfl)
      have hposs : poss C.cms i inf.m k = true := poss_of (j.mask pf hi hD) (fun q c hc hq => by
        rw [← Bool.not_eq_true]
        intro e
        have := (j.chn q c hc).1 (hdep _ e)
        omega)
      rw [hposs, bNot_al] at hks
      have hks : inf.ks.any (fun x => Nat.beq x k) = true := hks
      have hmem : k ∈ inf.ks := by
        rw [List.any_eq_true] at hks
        obtain ⟨x, h1, h2⟩ := hks
        rw [natBeq] at h2
        rw [← of_decide_eq_true h2]; exact h1
      obtain ⟨hk1, g1, g2⟩ := pf.rd i inf row hi hr hkk hb k hmem
      rw [j.hat] at g1
      cases g1
      rw [hputA_gD] at g2
      have hx : opA C.E C.call inf.o.op row.fr (gD C R (tb inf.m) k hk) = some (row.v, gD C R (tb inf.m) k hk) := by unfold opA; rw [rdo_ok g2]
      rw [← opA_congr hsame] at hx
      refine opA_ok ok hc j.fr rp hx fun u w' σ' A' s1 s2 s3 => ?_
      rw [← hd]
      exact hK _ _ _ _ _ _ (j.still pf j0 hi hr hD hdep hD' hdst' (by rw [hkk]; simp) (pf.ne_fre hi (by rw [hkk]; simp)) hle e1 s1 s3 s2) (defers_put _ _ _)
end
end
end Go.Proofs.YtfaemheimmndgaaGreatDoor.XI
