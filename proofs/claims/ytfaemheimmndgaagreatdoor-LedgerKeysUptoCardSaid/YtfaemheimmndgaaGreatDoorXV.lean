/- Drawn regions: what holds wherever the run stands. Part of a verified reckoner of runs: no condition. -/
import Derived.Test.YtfaemheimmndgaaGreatDoorXU
set_option linter.unusedVariables false
set_option linter.unusedSimpArgs false
namespace Go.Proofs.YtfaemheimmndgaaGreatDoor.XI
noncomputable section

/-! ### 16. Drawn regions: what holds wherever the run stands -/
structure PF (C : Cx) (is : List Inf) (R : RS) (fr0 : Fr) (F : Nat) : Prop where
  len : R.rows.length = is.length
  dep : ∀ (i : Nat) (inf : Inf), is[i]? = some inf → ∀ t, tb inf.m t = true → ∃ e ∈ inf.o.after.toList, Region.binds .any e = true ∧ (e.on = t ∨ ∃ inf', is[e.on]? = some inf' ∧ tb inf'.m t = true)
  lt : ∀ (i : Nat) (inf : Inf), is[i]? = some inf → inf.m < 2 ^ i
  back : ∀ (i : Nat) (inf : Inf), is[i]? = some inf → ∀ e ∈ inf.o.after.toList, Region.binds .any e = true → e.on < i
  clash : ∀ (i j : Nat) (x y : Inf), is[i]? = some x → is[j]? = some y → i < j → clash C.all x.o y.o = true → tb y.m i = true
  kok : ∀ (i : Nat) (inf : Inf), is[i]? = some inf → kOk C.cms i (kA is i) inf = true
  clen : kA is is.length = C.cms.length
  chain : ∀ (a b : Nat) (c d : Nat × Nat), a < b → C.cms[a]? = some c → C.cms[b]? = some d → tb d.2 c.1 = true
  ids : ∀ x ∈ R.fs, ∃ j, j < F ∧ x.2.1 = C.n0 + C.s0 * (j + 1)
  nd : (R.fs.map fun y => y.2.1).Nodup
  ix : R.fs.Pairwise (fun x y => x.1 < y.1)
  fre : ∀ x ∈ R.fs, ∃ inf, is[x.1]? = some inf ∧ inf.k = .fre
  stm : C.stm = C.s0 * (F + 1)
  pos : 0 < C.s0
  lk : Lk fr0 R.rows R.fr
  rows : ∀ (i : Nat) (inf : Inf), is[i]? = some inf → ∃ row, R.rows[i]? = some row ∧ RowC C R.hs R.fs i (kA is i) (kA is i) inf row
  rd : ∀ (i : Nat) (inf : Inf) (row : Row), is[i]? = some inf → R.rows[i]? = some row → inf.k = .rd → row.b = true → ∀ k ∈ inf.ks, ∃ h, R.hs[k]? = some h ∧ rdo inf.o.op C.E row.fr (hputA C.cms inf.m k h R.fs) = some row.v
  hlen : R.hs.length = C.cms.length + 1

section
variable {C : Cx} {is : List Inf} {R : RS} {fr0 : Fr} {F : Nat}

theorem PF.posm (pf : PF C is R fr0 F) : 0 < C.stm := by rw [pf.stm]; exact Nat.mul_pos pf.pos (by omega)
theorem PF.mod (pf : PF C is R fr0 F) {b c : Nat} (h : b % C.stm = c % C.stm) : b % C.s0 = c % C.s0 := by
  rw [pf.stm] at h
  rw [← Nat.mod_mul_right_mod b C.s0 (F + 1), h, Nat.mod_mul_right_mod]
theorem PF.idS (pf : PF C is R fr0 F) {x : Nat × Nat × Option ABlk} (hx : x ∈ R.fs) : x.2.1 % C.s0 = C.n0 % C.s0 := by
  obtain ⟨j, _, e⟩ := pf.ids x hx
  rw [e, Nat.add_mul_mod_self_left]
theorem PF.idlt (pf : PF C is R fr0 F) {x : Nat × Nat × Option ABlk} (hx : x ∈ R.fs) : C.n0 < x.2.1 ∧ x.2.1 < C.n0 + C.stm := by
  obtain ⟨j, hj, e⟩ := pf.ids x hx
  have h1 := Nat.mul_pos pf.pos (show 0 < j + 1 by omega)
  have h2 : C.s0 * (j + 1) < C.s0 * (F + 1) := Nat.mul_lt_mul_of_pos_left (by omega) pf.pos
  rw [pf.stm, e]
  omega
theorem PF.idM (pf : PF C is R fr0 F) {x : Nat × Nat × Option ABlk} (hx : x ∈ R.fs) : x.2.1 % C.stm ≠ C.n0 % C.stm := by
  intro h
  obtain ⟨h1, h2⟩ := pf.idlt hx
  have h3 := Nat.sub_mod_eq_zero_of_mod_eq h
  rw [Nat.mod_eq_of_lt (by omega)] at h3
  omega
theorem PF.idE (pf : PF C is R fr0 F) {x y : Nat × Nat × Option ABlk} (hx : x ∈ R.fs) (hy : y ∈ R.fs) (h : x.2.1 % C.stm = y.2.1 % C.stm) : x.2.1 = y.2.1 := by
  obtain ⟨h1, h2⟩ := pf.idlt hx
  obtain ⟨h3, h4⟩ := pf.idlt hy
  rcases Nat.le_total x.2.1 y.2.1 with h5 | h5
  · have h6 := Nat.sub_mod_eq_zero_of_mod_eq h.symm
    rw [Nat.mod_eq_of_lt (by omega)] at h6
    omega
  · have h6 := Nat.sub_mod_eq_zero_of_mod_eq h
    rw [Nat.mod_eq_of_lt (by omega)] at h6
    omega
theorem pw_idx : ∀ {l : Fs}, l.Pairwise (fun x y => x.1 < y.1) → ∀ {x y : Nat × Nat × Option ABlk}, x ∈ l → y ∈ l → x.1 = y.1 → x = y
  | [], _, x, y, hx, _, _ => by cases hx
  | z :: l, hp, x, y, hx, hy, h => by
    obtain ⟨p1, p2⟩ := List.pairwise_cons.1 hp
    rcases List.mem_cons.1 hx with rfl | hx'
    · rcases List.mem_cons.1 hy with rfl | hy'
      · rfl
      · have := p1 y hy'; omega
    · rcases List.mem_cons.1 hy with rfl | hy'
      · have := p1 x hx'; omega
      · exact pw_idx p2 hx' hy' h
theorem nd_id : ∀ {l : Fs}, (l.map fun y => y.2.1).Nodup → ∀ {x y : Nat × Nat × Option ABlk}, x ∈ l → y ∈ l → x.2.1 = y.2.1 → x = y
  | [], _, x, y, hx, _, _ => by cases hx
  | z :: l, hp, x, y, hx, hy, h => by
    simp only [List.map_cons, List.nodup_cons] at hp
    rcases List.mem_cons.1 hx with rfl | hx'
    · rcases List.mem_cons.1 hy with rfl | hy'
      · rfl
      · exact absurd (List.mem_map.2 ⟨y, hy', h.symm⟩) hp.1
    · rcases List.mem_cons.1 hy with rfl | hy'
      · exact absurd (List.mem_map.2 ⟨x, hx', h⟩) hp.1
      · exact nd_id hp.2 hx' hy' h

/-- One of the chain. -/
theorem PF.cat (pf : PF C is R fr0 F) {j : Nat} {c : Nat × Nat} (hc : C.cms[j]? = some c) : ∃ inf, is[c.1]? = some inf ∧ inf.k = .ch ∧ inf.m = c.2 ∧ kA is c.1 = j := by
  have hj : j < kA is is.length := by rw [pf.clen]; exact (List.getElem?_eq_some_iff.1 hc).1
  obtain ⟨i, inf, h1, h2, h3⟩ := kA_find is j hj
  have hk := pf.kok i inf h1
  unfold kOk at hk
  rw [h2, h3] at hk
  have hk : (match nt C.cms j with | some c => cond (Nat.beq c.1 i) (Nat.beq c.2 inf.m) false | none => false) = true := hk
  rw [nt_eq, hc] at hk
  simp only [cond_eq_if, natBeq] at hk
  split at hk
  · rename_i e
    have e := of_decide_eq_true e
    have e2 := of_decide_eq_true hk
    subst e
    exact ⟨inf, h1, h2, e2.symm, h3⟩
  · cases hk
theorem PF.ccat (pf : PF C is R fr0 F) {i : Nat} {inf : Inf} (h1 : is[i]? = some inf) (h2 : inf.k = .ch) : C.cms[kA is i]? = some (i, inf.m) := by
  have hk := pf.kok i inf h1
  unfold kOk at hk
  rw [h2] at hk
  have hk : (match nt C.cms (kA is i) with | some c => cond (Nat.beq c.1 i) (Nat.beq c.2 inf.m) false | none => false) = true := hk
  rw [nt_eq] at hk
  split at hk
  · rename_i c hc
    simp only [cond_eq_if, natBeq] at hk
    split at hk
    · rename_i e
      have e := of_decide_eq_true e
      have e2 := of_decide_eq_true hk
      rw [hc, ← e, ← e2]
    · cases hk
  · cases hk

/-- The heap where D is done. -/
def gD (C : Cx) (R : RS) (D : Nat → Bool) (k : Nat) (hk : H) : H := hput (fun f => cond (D f) (unm C.cms k f) false) hk R.fs

structure J (C : Cx) (is : List Inf) (R : RS) (fr0 : Fr) (M : Mem) (σ0 : Nat → Loc) (A0 : Nat → Prop) (w0 : World) (h0 : H) (n : Nat) (D : Nat → Bool) (k : Nat) (hk : H) (a : Act) (w : World) (σ : Nat → Loc) (A : Nat → Prop) : Prop where
  hat : R.hs[k]? = some hk
  fr : RelA σ A M (rowsF D R.rows 0 fr0) a
  rel : RelH σ A M w (gD C R D k hk)
  next0 : C.n0 ≤ hk.next
  nmod : hk.next % C.stm = C.n0 % C.stm
  st : hk.st = C.stm
  wb : hk.wb = h0.wb
  chn : ∀ (j : Nat) (c : Nat × Nat), C.cms[j]? = some c → (D c.1 = true ↔ j < k)
  clo : ∀ (i : Nat) (inf : Inf), is[i]? = some inf → D i = true → ∀ t, tb inf.m t = true → D t = true
  nums : ∀ b, A b → A0 b ∨ (∃ x ∈ R.fs, x.2.1 = b ∧ D x.1 = true) ∨ (C.n0 ≤ b ∧ b < hk.next ∧ b % C.stm = C.n0 % C.stm)
  not : ∀ x ∈ R.fs, unm C.cms k x.1 = true → hk.get x.2.1 = none
  low : ∀ b, b < h0.wb → (gD C R D k hk).get b = h0.get b
  only : ∀ b, h0.get b = none → (gD C R D k hk).get b = none ∨ (C.n0 ≤ b ∧ b % C.s0 = C.n0 % C.s0)
  mv : Mv σ0 A0 w0 h0 σ A w (gD C R D k hk)
  size : a.tmps.size = n

/-- What the run began with. -/
structure J0 (C : Cx) (A0 : Nat → Prop) (h0 : H) : Prop where
  n0 : C.n0 = h0.next
  s0 : C.s0 = h0.st
  bound : ∀ b, A0 b → b < h0.next ∨ b % h0.st ≠ h0.next % h0.st
  wb : h0.wb ≤ h0.next

variable {M : Mem} {σ0 σ σ' : Nat → Loc} {A0 A A' : Nat → Prop} {w0 w w' : World} {h0 hk hk' hp hp' : H} {n k k' i : Nat} {D D' : Nat → Bool} {a : Act} {inf : Inf} {row : Row} {u : Value}

theorem RelA.congr {fr fr' : Fr} (h : ∀ t, fr'.get t = fr.get t) (r : RelA σ A M fr a) : RelA σ A M fr' a :=
  ⟨fun t v hv => by rw [h]; exact r.tmps t v hv, fun t ht => by rw [h]; exact r.out t ht⟩

theorem PF.clash' (pf : PF C is R fr0 F) {j : Nat} {r : Row} (hj : R.rows[j]? = some r) : ∃ x, is[j]? = some x ∧ r.d = x.o.dst := by
  have hlt : j < is.length := by rw [← pf.len]; exact (List.getElem?_eq_some_iff.1 hj).1
  refine ⟨is[j], List.getElem?_eq_getElem hlt, ?_⟩
  obtain ⟨row, h1, h2⟩ := pf.rows j _ (List.getElem?_eq_getElem hlt)
  rw [hj] at h1
  cases h1
  obtain ⟨_, _, _, _, h3, _⟩ := h2
  exact h3

/-- Where an operation looks, the frame is as it was reckoned. -/
theorem J.same (pf : PF C is R fr0 F) (j : J C is R fr0 M σ0 A0 w0 h0 n D k hk a w σ A) (hi : is[i]? = some inf) (hr : R.rows[i]? = some row) (hD : D i = false) (hdep : ∀ t, tb inf.m t = true → D t = true) :
    ∀ t ∈ uses C.all inf.o, (rowsF D R.rows 0 fr0).get t = row.fr.get t := by
  intro t ht
  rw [pf.lk.at 0 i row hr]
  refine rowsF_congr R.rows 0 fr0 fr0 (fun q r hq hd => ?_) rfl
  obtain ⟨x, hx, hdx⟩ := pf.clash' hq
  rw [hdx] at hd
  simp only [Nat.zero_add]
  rcases Nat.lt_trichotomy q i with h | h | h
  · rw [hdep q (pf.clash q i x inf hx hi h (clash_use hd (.inl ht)))]
    simp [h]
  · subst h; simp [hD]
  · have h1 : tb x.m i = true := pf.clash i q inf x hi hx h (clash_over hd ht)
    have h2 : D q = false := by
      rw [← Bool.not_eq_true]
      intro e
      have := j.clo q x hx e i h1
      rw [hD] at this
      cases this
    rw [h2]
    simp; omega

theorem J.next (pf : PF C is R fr0 F) (j0 : J0 C A0 h0) (j : J C is R fr0 M σ0 A0 w0 h0 n D k hk a w σ A) (hi : is[i]? = some inf) (hr : R.rows[i]? = some row) (hD : D i = false) (hdep : ∀ t, tb inf.m t = true → D t = true)
    (hD' : ∀ t, D' t = true ↔ t = i ∨ D t = true) (hdst : ∀ t, row.d = some t → t < n)
    (hle : ∀ b x, hp.get b = some x → (gD C R D k hk).get b = some x) (s : Step σ A w hp σ' A' w' hp') (r' : RelH σ' A' M w' hp') (hv : RelV σ' A' M row.v u)
    (hat : R.hs[k']? = some hk') (hg : ∀ b, (gD C R D' k' hk').get b = if (hp'.get b).isSome then hp'.get b else if (hp.get b).isSome then none else (gD C R D k hk).get b)
    (next0 : C.n0 ≤ hk'.next) (nmod : hk'.next % C.stm = C.n0 % C.stm) (st : hk'.st = C.stm) (wb : hk'.wb = h0.wb) (chn : ∀ (j : Nat) (c : Nat × Nat), C.cms[j]? = some c → (D' c.1 = true ↔ j < k'))
    (nums : ∀ b, A' b → A b ∨ (∃ x ∈ R.fs, x.2.1 = b ∧ D' x.1 = true) ∨ (C.n0 ≤ b ∧ b < hk'.next ∧ b % C.stm = C.n0 % C.stm)) (hkn : hk.next ≤ hk'.next)
    (not : ∀ x ∈ R.fs, unm C.cms k' x.1 = true → hk'.get x.2.1 = none) (low : ∀ b, b < h0.wb → (gD C R D' k' hk').get b = (gD C R D k hk).get b)
    (only : ∀ b, (gD C R D k hk).get b = none → (gD C R D' k' hk').get b = none ∨ (C.n0 ≤ b ∧ b % C.s0 = C.n0 % C.s0)) :
    J C is R fr0 M σ0 A0 w0 h0 n D' k' hk' (a.put row.d u) w' σ' A' := by
  have hnums : ∀ b, A' b → A0 b ∨ (∃ x ∈ R.fs, x.2.1 = b ∧ D' x.1 = true) ∨ (C.n0 ≤ b ∧ b < hk'.next ∧ b % C.stm = C.n0 % C.stm) := by
    intro b hb
    rcases nums b hb with h | h
    · rcases j.nums b h with h | ⟨x, hx, e, hd⟩ | ⟨h1, h2, h3⟩
      · exact .inl h
      · exact .inr (.inl ⟨x, hx, e, (hD' _).2 (.inr hd)⟩)
      · exact .inr (.inr ⟨h1, by omega, h3⟩)
    · exact .inr h
  obtain ⟨g1, g2, g3⟩ := hput_same (fun f => cond (D' f) (unm C.cms k' f) false) R.fs hk'
  have hb' : ∀ b, A' b → b < (gD C R D' k' hk').next ∨ b % (gD C R D' k' hk').st ≠ (gD C R D' k' hk').next % (gD C R D' k' hk').st := by
    intro b hb
    show b < (hput _ hk' R.fs).next ∨ b % (hput _ hk' R.fs).st ≠ (hput _ hk' R.fs).next % (hput _ hk' R.fs).st
    rw [g1, g3, st, nmod]
    rcases hnums b hb with h | ⟨x, hx, e, hd⟩ | ⟨h1, h2, h3⟩
    · rcases j0.bound b h with h | h
      · rw [← j0.n0] at h; exact .inl (by omega)
      · rw [← j0.n0, ← j0.s0] at h
        exact .inr fun e => h (pf.mod e)
    · rw [← e]; exact .inr (pf.idM hx)
    · exact .inl h2
  obtain ⟨m1, m2⟩ := frame_ok j.rel hle s r' hg hb' (by show (hput _ hk' R.fs).wb ≤ (hput _ hk' R.fs).next; rw [g1, g2, wb]; have := j0.wb; have := j0.n0; omega) (by show 0 < (hput _ hk' R.fs).st; rw [g3, st]; exact pf.posm)
  have hD'i : D' i = true := (hD' i).2 (.inl rfl)
  have hD'n : ∀ t, t ≠ i → D' t = D t := fun t ht => by
    rw [Bool.eq_iff_iff, hD']
    exact ⟨fun h => h.resolve_left ht, .inr⟩
  refine ⟨hat, ?_, m2, next0, nmod, st, wb, chn, fun q x hq hd t ht => ?_, hnums, not, fun b hb => by rw [low b hb]; exact j.low b hb, fun b hb => ?_, j.mv.trans m1, by rw [size_put]; exact j.size⟩
  · have ra' : RelA σ' A' M (rowsF D R.rows 0 fr0) a := ⟨fun t v hv => s.relV (j.fr.tmps t v hv), j.fr.out⟩
    refine (ra'.put hv (d := row.d) (by rw [j.size]; exact hdst)).congr fun t => ?_
    rw [get_putF]
    obtain ⟨x0, hx0, hd0⟩ := pf.clash' hr
    rw [hi] at hx0
    cases hx0
    by_cases hd : row.d = some t
    · rw [if_pos hd]
      refine rowsF_last R.rows 0 fr0 i row hr hd (by rw [Nat.zero_add]; exact hD'i) fun q r hq hlt hdr => ?_
      rw [Nat.zero_add, hD'n q (by omega), ← Bool.not_eq_true]
      intro e
      obtain ⟨x, hx, hdx⟩ := pf.clash' hq
      have := j.clo q x hx e i (pf.clash i q inf x hi hx hlt (clash_use (hd0.symm.trans hd) (.inr (hdx.symm.trans hdr))))
      rw [hD] at this
      cases this
    · rw [if_neg hd]
      refine rowsF_congr R.rows 0 fr0 fr0 (fun q r hq hdr => ?_) rfl
      rw [Nat.zero_add]
      exact hD'n q fun e => by subst e; rw [hr] at hq; cases hq; exact hd hdr
  · rcases (hD' q).1 hd with h | h
    · subst h
      rw [hi] at hq
      cases hq
      exact (hD' t).2 (.inr (hdep t ht))
    · exact (hD' t).2 (.inr (j.clo q x hq h t ht))
  · rcases j.only b hb with h | h
    · exact only b h
    · exact .inr h
end
end
end Go.Proofs.YtfaemheimmndgaaGreatDoor.XI
