/- Drawn regions: small facts. Part of a verified reckoner of runs: no condition. -/
import Derived.Test.YtfaemheimmndgaaGreatDoorXO
set_option linter.unusedVariables false
set_option linter.unusedSimpArgs false
namespace Go.Proofs.YtfaemheimmndgaaGreatDoor.XI
noncomputable section

/-! ### 15. Drawn regions: small facts -/
theorem eqL_eq {f : AV → AV → Bool} (hf : ∀ x y, f x y = true → x = y) : ∀ {xs ys : List AV}, eqL f xs ys = true → xs = ys
  | [], [], _ => rfl
  | [], y :: ys, h => Bool.noConfusion (show false = true from h)
  | x :: xs, [], h => Bool.noConfusion (show false = true from h)
  | x :: xs, y :: ys, h => by
    have h : cond (f x y) (eqL f xs ys) false = true := h
    rw [cond_eq_if] at h
    split at h
    · rename_i h1; rw [hf x y h1, eqL_eq hf h]
    · cases h

theorem eqAV_eq : ∀ (n : Nat) (x y : AV), eqAV n x y = true → x = y
  | 0, x, y, h => Bool.noConfusion (show false = true from h)
  | n + 1, x, y, h => by
    have ih := eqAV_eq n
    have hl : ∀ {xs ys : List AV}, eqL (eqAV n) xs ys = true → xs = ys := fun h => eqL_eq ih h
    cases x <;> cases y <;> (try rfl) <;> (try (exact Bool.noConfusion (show false = true from h)))
    case b.b p q =>
      have h : cond p q (bNot q) = true := h
      cases p <;> cases q <;> first | rfl | exact Bool.noConfusion (show false = true from h)
    case i.i k m l q =>
      have h : cond (iEq m q) (eqK k l) false = true := h
      rw [cond_eq_if, iEq_eq] at h
      split at h
      · rename_i h1; rw [of_decide_eq_true h1, show k = l from of_decide_eq_true h]
      · cases h
    case f.f k m l q =>
      have h : cond (Nat.beq m q) (eqFK k l) false = true := h
      rw [cond_eq_if, natBeq] at h
      split at h
      · rename_i h1; rw [of_decide_eq_true h1, show k = l from of_decide_eq_true h]
      · cases h
    case s.s l m =>
      have h : eqN l m = true := h
      rw [eqN_eq] at h
      rw [eq_of_beq h]
    case p.p b o c q =>
      have h : cond (Nat.beq b c) (Nat.beq o q) false = true := h
      simp only [cond_eq_if, natBeq] at h
      split at h
      · rename_i h1; rw [of_decide_eq_true h1, of_decide_eq_true h]
      · cases h
    case sl.sl b o n' c z b' o' n'' c' z' =>
      have h : cond (Nat.beq b b') (cond (Nat.beq o o') (cond (Nat.beq n' n'') (cond (Nat.beq c c') (Nat.beq z z') false) false) false) false = true := h
      simp only [cond_eq_if, natBeq] at h
      split at h <;> (try (cases h; done))
      rename_i h1
      split at h <;> (try (cases h; done))
      rename_i h2
      split at h <;> (try (cases h; done))
      rename_i h3
      split at h <;> (try (cases h; done))
      rename_i h4
      rw [of_decide_eq_true h1, of_decide_eq_true h2, of_decide_eq_true h3, of_decide_eq_true h4, of_decide_eq_true h]
    case m.m b c =>
      have h : Nat.beq b c = true := h
      rw [natBeq] at h
      rw [of_decide_eq_true h]
    case fn.fn g xs ys g' xs' ys' =>
      have h : cond (eqF1 g g') (cond (eqL (eqAV n) xs xs') (eqL (eqAV n) ys ys') false) false = true := h
      simp only [cond_eq_if] at h
      split at h <;> (try (cases h; done))
      rename_i h1
      split at h <;> (try (cases h; done))
      rename_i h2
      rw [hl h2, hl h]
      have : g = g' := by
        unfold eqF1 at h1
        split at h1
        · rw [natBeq] at h1; rw [of_decide_eq_true h1]
        · cases h1
      rw [this]
    case ifc.ifc t v u v' =>
      have h : cond (Nat.beq t u) (eqAV n v v') false = true := h
      simp only [cond_eq_if, natBeq] at h
      split at h
      · rename_i h1; rw [of_decide_eq_true h1, ih _ _ h]
      · cases h
    case agg.agg xs ys => rw [hl (show eqL (eqAV n) xs ys = true from h)]
    case tup.tup xs ys => rw [hl (show eqL (eqAV n) xs ys = true from h)]
    case ro.ro xs m z xs' m' z' =>
      have h : cond (eqL (eqAV n) xs xs') (cond (Nat.beq m m') (Nat.beq z z') false) false = true := h
      simp only [cond_eq_if, natBeq] at h
      split at h <;> (try (cases h; done))
      rename_i h1
      split at h <;> (try (cases h; done))
      rename_i h2
      rw [hl h1, of_decide_eq_true h2, of_decide_eq_true h]
    case rp.rp xs ys => rw [hl (show eqL (eqAV n) xs ys = true from h)]
    case tok.tok i j =>
      have h : Nat.beq i j = true := h
      rw [natBeq] at h
      rw [of_decide_eq_true h]

theorem bNot_al {α : Type} (f : α → Bool) (l : List α) : bNot (al (fun x => bNot (f x)) l) = l.any f := by
  rw [bNot_eq, al_eq]
  induction l with
  | nil => rfl
  | cons x l ih => simp only [List.all_cons, List.any_cons, bNot_eq, Bool.not_and, Bool.not_not]; rw [← ih]; simp [bNot_eq]
theorem memN_iff {n : Nat} {l : List Nat} : memN n l = true ↔ n ∈ l := by
  unfold memN
  rw [bNot_al]
  simp only [List.any_eq_true, natBeq, decide_eq_true_eq, exists_eq_right]

theorem get_of_tk {α : Type} {l : List α} {k : Nat} {x : α} (h : x ∈ tk k l) : ∃ j, j < k ∧ l[j]? = some x := by
  rw [tk_eq] at h
  obtain ⟨j, hj⟩ := List.mem_iff_getElem?.1 h
  rw [List.getElem?_take] at hj
  split at hj
  · exact ⟨j, by assumption, hj⟩
  · cases hj
theorem get_of_dp {α : Type} {l : List α} {k : Nat} {x : α} (h : x ∈ dp k l) : ∃ j, k ≤ j ∧ l[j]? = some x := by
  rw [dp_eq] at h
  obtain ⟨j, hj⟩ := List.mem_iff_getElem?.1 h
  rw [List.getElem?_drop] at hj
  exact ⟨k + j, by omega, hj⟩

theorem unm_iff {cms : Cms} {k f : Nat} : unm cms k f = true ↔ ∀ (j : Nat) (c : Nat × Nat), cms[j]? = some c → j < k → tb c.2 f = false := by
  unfold unm
  rw [al_eq, List.all_eq_true]
  constructor
  · intro h j c hc hj
    have := h c (by rw [tk_eq]; exact List.mem_of_getElem? (i := j) (by rw [List.getElem?_take_of_lt hj]; exact hc))
    rw [bNot_eq] at this
    simpa using this
  · intro h c hc
    obtain ⟨j, h1, h2⟩ := get_of_tk hc
    rw [bNot_eq, h j c h2 h1]
    rfl
theorem poss_of {cms : Cms} {i m k : Nat} (h1 : ∀ (j : Nat) (c : Nat × Nat), cms[j]? = some c → j < k → tb c.2 i = false) (h2 : ∀ (j : Nat) (c : Nat × Nat), cms[j]? = some c → k ≤ j → tb m c.1 = false) : poss cms i m k = true := by
  unfold poss
  have e1 : al (fun c : Nat × Nat => bNot (tb c.2 i)) (tk k cms) = true := unm_iff.2 h1
  rw [e1]
  show al (fun c : Nat × Nat => bNot (tb m c.1)) (dp k cms) = true
  rw [al_eq, List.all_eq_true]
  intro c hc
  obtain ⟨j, g1, g2⟩ := get_of_dp hc
  rw [bNot_eq, h2 j c g2 g1]
  rfl

/-- Every one of the chain is there. -/
theorem kA_find : ∀ (is : List Inf) (j : Nat), j < kA is is.length → ∃ (i : Nat) (inf : Inf), is[i]? = some inf ∧ inf.k = .ch ∧ kA is i = j
  | [], j, h => by simp [kA] at h
  | inf :: is, j, h => by
    simp only [List.length_cons, kA] at h
    cases hk : inf.k with
    | ch =>
      rw [hk] at h
      simp only [kNext] at h
      cases j with
      | zero => exact ⟨0, inf, rfl, hk, kA_zero _⟩
      | succ j =>
        obtain ⟨i, inf', g1, g2, g3⟩ := kA_find is j (by omega)
        exact ⟨i + 1, inf', by simpa using g1, g2, by simp only [kA, hk, kNext, g3]; omega⟩
    | _ =>
      rw [hk] at h
      simp only [kNext] at h
      obtain ⟨i, inf', g1, g2, g3⟩ := kA_find is j (by omega)
      exact ⟨i + 1, inf', by simpa using g1, g2, by simp only [kA, hk, kNext, g3]; omega⟩

/-! Frames behind some of the rows. -/
def rowsF (S : Nat → Bool) : List Row → Nat → Fr → Fr
  | [], _, fr => fr
  | r :: rs, i, fr => rowsF S rs (i + 1) (if S i then putF fr r.d r.v else fr)
theorem get_putF (fr : Fr) (d : Option Tmp) (v : AV) (t : Nat) : (putF fr d v).get t = if d = some t then some v else fr.get t := by
  cases d with
  | none => rfl
  | some d =>
    show (T.put fr d (some v)).get t = _
    rw [T.get_put]
    by_cases e : t = d
    · subst e; simp
    · rw [if_neg e, if_neg (by simpa using fun h => e h.symm)]
theorem rowsF_congr {S S' : Nat → Bool} {t : Nat} : ∀ (rows : List Row) (i : Nat) (fr fr' : Fr), (∀ (j : Nat) (r : Row), rows[j]? = some r → r.d = some t → S (i + j) = S' (i + j)) → fr.get t = fr'.get t →
    (rowsF S rows i fr).get t = (rowsF S' rows i fr').get t
  | [], i, fr, fr', _, h => h
  | r :: rs, i, fr, fr', hS, h => by
    refine rowsF_congr rs (i + 1) _ _ (fun j x hj hx => ?_) ?_
    · have := hS (j + 1) x (by simpa using hj) hx
      rw [show i + 1 + j = i + (j + 1) by omega]; exact this
    · by_cases hd : r.d = some t
      · have := hS 0 r rfl hd
        simp only [Nat.add_zero] at this
        rw [this]
        cases S' i
        · exact h
        · simp only [if_true]; rw [get_putF, get_putF, if_pos hd, if_pos hd]
      · have e : ∀ (b : Bool) (f : Fr), (if b = true then putF f r.d r.v else f).get t = f.get t := fun b f => by
          cases b
          · rfl
          · simp only [if_true]; rw [get_putF, if_neg hd]
        rw [e, e]; exact h
theorem rowsF_none {S : Nat → Bool} : ∀ (rows : List Row) (i : Nat) (fr : Fr), (∀ j, j < rows.length → S (i + j) = false) → rowsF S rows i fr = fr
  | [], i, fr, _ => rfl
  | r :: rs, i, fr, h => by
    show rowsF S rs (i + 1) (if S i then putF fr r.d r.v else fr) = fr
    have h0 := h 0 (by simp)
    simp only [Nat.add_zero] at h0
    rw [h0]
    exact rowsF_none rs (i + 1) fr fun j hj => by rw [show i + 1 + j = i + (j + 1) by omega]; exact h (j + 1) (by simpa using hj)
theorem rowsF_last {S : Nat → Bool} {t : Nat} : ∀ (rows : List Row) (i : Nat) (fr : Fr) (j : Nat) (r : Row), rows[j]? = some r → r.d = some t → S (i + j) = true →
    (∀ (j' : Nat) (r' : Row), rows[j']? = some r' → j < j' → r'.d = some t → S (i + j') = false) → (rowsF S rows i fr).get t = some r.v
  | [], i, fr, j, r, h, _, _, _ => by simp at h
  | x :: rs, i, fr, 0, r, h, hd, hS, hl => by
    simp at h
    subst h
    simp only [Nat.add_zero] at hS
    show (rowsF S rs (i + 1) (if S i then putF fr x.d x.v else fr)).get t = _
    rw [hS]
    simp only [if_true]
    rw [rowsF_congr (S' := fun _ => false) rs (i + 1) _ (putF fr x.d x.v) (fun j r hj hr => ?_) rfl, rowsF_none _ _ _ (fun _ _ => rfl), get_putF, if_pos hd]
    have := hl (j + 1) r (by simpa using hj) (by omega) hr
    rw [show i + 1 + j = i + (j + 1) by omega]; exact this
  | x :: rs, i, fr, j + 1, r, h, hd, hS, hl => by
    refine rowsF_last rs (i + 1) _ j r (by simpa using h) hd (by rw [show i + 1 + j = i + (j + 1) by omega]; exact hS) fun j' r' hj hlt hr => ?_
    have := hl (j' + 1) r' (by simpa using hj) (by omega) hr
    rw [show i + 1 + j' = i + (j' + 1) by omega]; exact this
theorem Lk.at : ∀ {rows : List Row} {fr frE : Fr}, Lk fr rows frE → ∀ (i0 i : Nat) (r : Row), rows[i]? = some r → r.fr = rowsF (fun j => decide (j < i0 + i)) rows i0 fr
  | [], fr, frE, _, i0, i, r, h => by simp at h
  | x :: rs, fr, frE, hl, i0, 0, r, h => by
    simp at h
    subst h
    rw [rowsF_none _ _ _ (fun j _ => by simp)]
    exact hl.1
  | x :: rs, fr, frE, hl, i0, i + 1, r, h => by
    have := Lk.at hl.2 (i0 + 1) i r (by simpa using h)
    rw [this]
    show _ = rowsF _ rs (i0 + 1) (if decide (i0 < i0 + (i + 1)) = true then putF fr x.d x.v else fr)
    rw [if_pos (by simp), show i0 + 1 + i = i0 + (i + 1) by omega]
theorem Lk.endF {S : Nat → Bool} : ∀ {rows : List Row} {fr frE : Fr}, Lk fr rows frE → ∀ (i0 : Nat), (∀ j, j < rows.length → S (i0 + j) = true) → frE = rowsF S rows i0 fr
  | [], fr, frE, h, i0, _ => h
  | x :: rs, fr, frE, hl, i0, hS => by
    have h0 := hS 0 (by simp)
    simp only [Nat.add_zero] at h0
    have := Lk.endF hl.2 (i0 + 1) (fun j hj => by rw [show i0 + 1 + j = i0 + (j + 1) by omega]; exact hS (j + 1) (by simpa using hj))
    rw [this]
    show _ = rowsF S rs (i0 + 1) (if S i0 then putF fr x.d x.v else fr)
    rw [h0]
    rfl

theorem wantedG_congr {all : List Oper} {fr fr' : Fr} {o : Oper} (h : ∀ t ∈ uses all o, fr.get t = fr'.get t) : wantedG all fr o.guard = wantedG all fr' o.guard := by
  unfold wantedG
  cases hg : o.guard with
  | none => rfl
  | some g =>
    obtain ⟨j, want⟩ := g
    simp only
    cases hj : nt all j with
    | none => rfl
    | some oj =>
      simp only
      cases hd : oj.dst with
      | none => rfl
      | some t =>
        simp only
        rw [h t (by unfold uses; rw [ap_eq, hg]; simp only; rw [hj]; simp only; rw [hd]; simp)]
theorem opA_congr {E : Env} {call : CallF} {all : List Oper} {fr fr' : Fr} {o : Oper} {h : H} (hs : ∀ t ∈ uses all o, fr.get t = fr'.get t) : opA E call o.op fr h = opA E call o.op fr' h := by
  unfold opA
  rw [aop_congr (fun t ht => hs t (by unfold uses; rw [ap_eq]; exact List.mem_append_left _ ht))]

theorem cond_or (x y : Bool) : cond x true y = (x || y) := by cases x <;> rfl
theorem clash_use {all : List Oper} {a b : Oper} {t : Nat} (h1 : a.dst = some t) (h2 : t ∈ uses all b ∨ b.dst = some t) : clash all a b = true := by
  unfold clash
  rw [h1]
  simp only [cond_or, Bool.or_eq_true]
  left
  rcases h2 with h2 | h2
  · exact .inl (memN_iff.2 h2)
  · right; rw [h2]; simp only [Nat.beq_refl]
theorem clash_over {all : List Oper} {a b : Oper} {t : Nat} (h1 : b.dst = some t) (h2 : t ∈ uses all a) : clash all a b = true := by
  unfold clash
  rw [cond_or, Bool.or_eq_true]
  right
  rw [h1]
  exact memN_iff.2 h2

theorem hput_congr {S S' : Nat → Bool} {b : Nat} : ∀ (fs : Fs) (h h' : H), (∀ f x, (f, b, some x) ∈ fs → S f = S' f) → h.get b = h'.get b → (hput S h fs).get b = (hput S' h' fs).get b
  | [], h, h', _, e => e
  | (f, c, x) :: fs, h, h', hS, e => by
    rw [hput_cons, hput_cons]
    refine hput_congr fs _ _ (fun f x m => hS f x (by simp [m])) ?_
    cases x with
    | none => cases S f <;> cases S' f <;> exact e
    | some y =>
      have hput1 : ∀ (b' : Bool) (h : H), H.get (cond b' (⟨h.t.put c (some y), h.next, h.wb, h.st⟩ : H) h) b = if b' = true ∧ b = c then some y else h.get b := fun b' h => by
        cases b'
        · simp
        · show (H.get ⟨h.t.put c (some y), h.next, h.wb, h.st⟩ b) = _
          simp only [H.get, T.get_put]
          simp
      show H.get (cond (S f) (⟨h.t.put c (some y), h.next, h.wb, h.st⟩ : H) h) b = H.get (cond (S' f) (⟨h'.t.put c (some y), h'.next, h'.wb, h'.st⟩ : H) h') b
      rw [hput1, hput1, e]
      by_cases hb : b = c
      · subst hb
        rw [hS f y (by simp)]
      · simp [hb]

theorem rdsOk_spec {C : Cx} {hs : List H} {fs : Fs} : ∀ (is : List Inf) (rows : List Row), rdsOk C hs fs is rows = true → ∀ (j : Nat) (inf : Inf) (row : Row), is[j]? = some inf → rows[j]? = some row → inf.k = .rd → rdSame C hs fs inf row = true
  | [], rows, _, j, inf, row, h, _, _ => by simp at h
  | x :: is, [], _, j, inf, row, _, h, _ => by simp at h
  | x :: is, r :: rs, hx, j, inf, row, h1, h2, hk => by
    have hx : K4.rec (motive := fun _ => Bool) (rdsOk C hs fs is rs) (cond (rdSame C hs fs x r) (rdsOk C hs fs is rs) false) (rdsOk C hs fs is rs) (rdsOk C hs fs is rs) x.k = true := hx
    cases j with
    | zero =>
      simp at h1 h2
      subst h1
      subst h2
      rw [hk] at hx
      have hx : cond (rdSame C hs fs x r) (rdsOk C hs fs is rs) false = true := hx
      rw [cond_eq_if] at hx
      split at hx
      · assumption
      · cases hx
    | succ j =>
      refine rdsOk_spec is rs ?_ j inf row (by simpa using h1) (by simpa using h2) hk
      cases hxk : x.k <;> rw [hxk] at hx
      · exact hx
      · have hx : cond (rdSame C hs fs x r) (rdsOk C hs fs is rs) false = true := hx
        rw [cond_eq_if] at hx
        split at hx
        · exact hx
        · cases hx
      · exact hx
      · exact hx
theorem rdSame_spec {C : Cx} {hs : List H} {fs : Fs} {inf : Inf} {row : Row} (h : rdSame C hs fs inf row = true) (hb : row.b = true) {k : Nat} (hk : k ∈ inf.ks) :
    ∃ hk, hs[k]? = some hk ∧ rdo inf.o.op C.E row.fr (hputA C.cms inf.m k hk fs) = some row.v := by
  unfold rdSame at h
  rw [hb, cond_eq_if, if_pos rfl, al_eq, List.all_eq_true] at h
  have h := h k hk
  rw [nt_eq] at h
  split at h
  · rename_i g hg
    split at h
    · rename_i v hv
      rw [eqAV_eq _ _ _ h] at hv
      exact ⟨g, hg, hv⟩
    · cases h
  · cases h

theorem hputA_fs {cms : Cms} {m k i : Nat} {h : H} {fs fsc fsr : Fs} (hf : fs = fsc ++ fsr) (hr : ∀ x ∈ fsr, i ≤ x.1) (hm : m < 2 ^ i) : hputA cms m k h fsc = hputA cms m k h fs := by
  unfold hputA
  rw [hf, hput_append, hput_none _ fsr]
  intro x hx
  have : tb m x.1 = false := by
    rw [← Bool.not_eq_true]
    intro e
    have := tb_lt hm e
    have := hr x hx
    omega
  rw [this]; rfl
end
end Go.Proofs.YtfaemheimmndgaaGreatDoor.XI
