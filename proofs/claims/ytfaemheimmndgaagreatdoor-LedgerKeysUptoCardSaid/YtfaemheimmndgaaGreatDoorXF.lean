/- New slices, parts of slices, copies. Part of a verified reckoner of runs: no condition. -/
import Derived.Test.YtfaemheimmndgaaGreatDoorXE
set_option linter.unusedVariables false
set_option linter.unusedSimpArgs false
namespace Go.Proofs.YtfaemheimmndgaaGreatDoor.XI
noncomputable section

section
variable {E : Env} {σ : Nat → Loc} {A : Nat → Prop} {M : Mem} {w : World} {h : H}

def aMakeSlice (E : Env) (h : H) (t : TypeId) (x y : AV) : Option (AV × H) := match E.ty t, x, y with
  | some i, .i _ l, .i _ c => match i.desc with
    | .slice e => match E.ty e with
      | some j => cond (and (and (and (and (iLe 0 l) (iLe l c)) (iLe c 4294967296)) (Nat.ble (j.bytes * c.toNat) 140737488355328)) (Nat.beq (ln j.zv.cells) j.size))
          (some (.sl h.next 0 l.toNat c.toNat j.size, h.push (.cells (aRep c.toNat j.zv.cells)))) none
      | none => none
    | _ => none
  | _, _, _ => none
theorem aMakeSlice_ok (ok : E.Ok) (r : RelH σ A M w h) {t : TypeId} {x y z : AV} {h' : H} (hx : aMakeSlice E h t x y = some (z, h')) {v u : Value} (hv : RelV σ A M x v) (hu : RelV σ A M y u) : Made E σ A M w h (Instr.makeSlice t v u) z h' := by
  unfold aMakeSlice at hx
  simp only [tk_eq, dp_eq, ap_eq, ln_eq, nt_eq, mp_eq, al_eq, st_eq, rpl_eq, eqN_eq, iLe_eq, iLt_eq, iEq_beq, bNot_eq, iAdd_eq, iSub_eq, wr_eq, cond_eq_if, ble_dec, natBeq] at hx
  split at hx
  case h_2 => cases hx
  rename_i i kl l kc c hi
  split at hx
  case h_2 => cases hx
  rename_i e hd
  split at hx
  case h_2 => cases hx
  rename_i j hj
  split at hx
  case isFalse => cases hx
  rename_i hc
  simp only [Bool.and_eq_true, decide_eq_true_eq] at hc
  obtain ⟨⟨⟨⟨h0, h1⟩, h2⟩, h3⟩, h4⟩ := hc
  have h3 : (j.bytes : Int) * c ≤ 140737488355328 := by
    have e : (c.toNat : Int) = c := by omega
    have h5 : ((j.bytes * c.toNat : Nat) : Int) ≤ ((140737488355328 : Nat) : Int) := Int.ofNat_le.2 h3
    rw [Int.natCast_mul, e] at h5
    exact h5
  cases hx
  cases hv
  cases hu
  obtain ⟨hP, _⟩ := ok.ty t i hi
  obtain ⟨_, inf, g1, g2, g3, g4⟩ := ok.ty e j hj
  rw [hd] at hP
  have hrun := run_make (P := E.P) w t e inf j.zero hP g1 g4 kl kc l c h0 h1 (by rw [g3]; omega) (by omega)
  rw [g2] at hrun
  have hzc := rel_zc (σ := σ) (A := A) (M := M) ok hj
  have hzl := hzc.length
  simp only [Array.length_toList] at hzl
  have hcells : RelL σ A M (aRep c.toNat j.zv.cells) (madeCells j.zero.cells (c.toNat * j.size)).toList := by
    have := aRep_ok c.toNat hzc (c.toNat * j.size) (by rw [← h4, hzl])
    simpa [madeCells] using this
  obtain ⟨p1, p2⟩ := push_cells r _ (madeCells j.zero.cells (c.toNat * j.size)) e hcells
  refine ⟨_, _, hrun, _, _, p1, rel_sl_new (.inr rfl) (upd_same _ _ _) rfl ?_ (Nat.le_refl _) ?_, p2⟩
  · omega
  · simp [madeCells]

/-! #### Cutting -/
def aBound (x : Option AV) (d y : Nat) : Option Nat := match x with
  | none => some d
  | some (.i _ n) => cond (and (iLe 0 n) (iLe n (y : Int))) (some n.toNat) none
  | _ => none
theorem aBound_some {x : AV} {d y n : Nat} (hx : aBound (some x) d y = some n) {v : Value} (hv : RelV σ A M x v) (y' : Nat) (hy : y ≤ y') (code : BoundsCode) {P : Program} : (Instr.sliceBound v y' code).run P w = .ok n w ∧ n ≤ y := by
  unfold aBound at hx
  simp only [tk_eq, dp_eq, ap_eq, ln_eq, nt_eq, mp_eq, al_eq, st_eq, rpl_eq, eqN_eq, iLe_eq, iLt_eq, iEq_beq, bNot_eq, iAdd_eq, iSub_eq, wr_eq, cond_eq_if, ble_dec, natBeq] at hx
  split at hx
  · rename_i e; cases e
  · rename_i k m e
    cases e
    cases hv
    split at hx
    · rename_i hc
      simp only [Bool.and_eq_true, decide_eq_true_eq] at hc
      cases hx
      exact ⟨by simp [Instr.sliceBound, asIntOf, hc.1, show m ≤ (y' : Int) by omega], by omega⟩
    · cases hx
  · cases hx

/-- An operand that may be left out. -/
inductive RelO (σ : Nat → Loc) (A : Nat → Prop) (M : Mem) : Option AV → Option Value → Prop
  | none : RelO σ A M none none
  | some (x : AV) (v : Value) (h : RelV σ A M x v) : RelO σ A M (some x) (some v)

/-- The two or three ends of a cut, where the capacity is at least c (and 'cap' in the world). -/
theorem sliceBounds_ok {P : Program} (isS : Bool) {lo hi mx : Option AV} {vlo vhi vmx : Option Value} (hlo : RelO σ A M lo vlo) (hhi : RelO σ A M hi vhi) (hmx : RelO σ A M mx vmx) {len c cap l hh : Nat} (hc : c ≤ cap) (hlen : len ≤ c)
    (e2 : aBound hi len c = some hh) (e1 : aBound lo 0 hh = some l) (hm : mx = none) :
    (Instr.sliceBounds isS len cap vlo vhi vmx).run P w = .ok (l, hh, cap) w ∧ l ≤ hh ∧ hh ≤ c := by
  subst hm
  cases hmx
  unfold Instr.sliceBounds
  cases hhi with
  | none =>
    simp only [aBound, Option.some.injEq] at e2
    subst e2
    cases hlo with
    | none =>
      simp only [aBound, Option.some.injEq] at e1
      subst e1
      exact ⟨by simp, by omega, by omega⟩
    | some x v hx =>
      obtain ⟨r1, r2⟩ := aBound_some (w := w) (P := P) e1 hx len (Nat.le_refl _) .sliceB
      exact ⟨by simp [r1], r2, by omega⟩
  | some y u hy =>
    obtain ⟨s1, s2⟩ := aBound_some (w := w) (P := P) e2 hy cap hc (if isS then .sliceAcap else .sliceAlen)
    cases hlo with
    | none =>
      simp only [aBound, Option.some.injEq] at e1
      subst e1
      exact ⟨by simp [s1], by omega, s2⟩
    | some x v hx =>
      obtain ⟨r1, r2⟩ := aBound_some (w := w) (P := P) e1 hx hh (Nat.le_refl _) .sliceB
      exact ⟨by simp [s1, r1], r2, s2⟩

def aSlice (E : Env) (h : H) (t : TypeId) (x : AV) (lo hi : Option AV) : Option AV := match E.ty t with
  | some i => match i.desc with
    | .string => match x with
      | .s s => match aBound hi (ln s) (ln s) with
        | some hh => match aBound lo 0 hh with
          | some l => some (.s (tk (hh - l) (dp l s)))
          | none => none
        | none => none
      | _ => none
    | .slice e => match E.ty e with
      | some j => match x with
        | .sl b o n c z => cond (Nat.beq z j.size) (match aBound hi n c with
          | some hh => match aBound lo 0 hh with
            | some l => some (.sl b (o + l * z) (hh - l) (c - l) z)
            | none => none
          | none => none) none
        | .nils => match aBound hi 0 0 with
          | some hh => match aBound lo 0 hh with
            | some l => some .nils
            | none => none
          | none => none
        | .ro cs n z => cond (Nat.beq z j.size) (match aBound hi n n with
          | some hh => match aBound lo 0 hh with
            | some l => some (.ro (tk ((hh - l) * z) (dp (l * z) cs)) (hh - l) z)
            | none => none
          | none => none) none
        | _ => none
      | none => none
    | .array len e => match E.ty e with
      | some j => match x with
        | .p b o => match h.get b with
          | some (.cells cs) => cond (and (Nat.ble (o + len * j.size) (ln cs)) (Nat.ble 1 (len * j.size))) (match aBound hi len len with
            | some hh => match aBound lo 0 hh with
              | some l => some (.sl b (o + l * j.size) (hh - l) (len - l) j.size)
              | none => none
            | none => none) none
          | _ => none
        | _ => none
      | none => none
    | _ => none
  | none => none

theorem nb_extract (s : ByteArray) (l h : Nat) : nb (s.extract l h) = ((nb s).drop l).take (h - l) := by
  simp [nb, ByteArray.data_extract, List.extract_eq_take_drop, List.map_take, List.map_drop]

theorem ro_cut {cs : List AV} {n z cap : Nat} {a : Addr} {vs : List Value} (hl : cs.length = n * z) (hn : n ≤ cap) (hr : RelL σ A M cs vs) (hm : ∀ j v, vs[j]? = some v → M (a.add j) = some v) {l hh : Nat} (h1 : l ≤ hh) (h2 : hh ≤ n) :
    RelV σ A M (.ro ((cs.drop (l * z)).take ((hh - l) * z)) (hh - l) z) (.slice (some (if cap = l then a else a.add (l * z))) (hh - l) (cap - l)) := by
  have hz : hh * z ≤ n * z := Nat.mul_le_mul_right _ h2
  have hz' : l * z + (hh - l) * z = hh * z := by rw [← Nat.add_mul]; congr 1; omega
  refine .ro _ _ _ _ _ ((vs.drop (l * z)).take ((hh - l) * z)) ?_ (by omega) ((hr.drop _).take _) (fun j v hv => ?_)
  · simp; omega
  · have hj : j < (hh - l) * z := by
      have := (List.getElem?_eq_some_iff.1 hv).1
      simp at this
      omega
    rw [List.getElem?_take_of_lt hj, List.getElem?_drop] at hv
    have hcl : cap ≠ l := by
      rintro rfl
      have : hh - cap = 0 := by omega
      rw [this] at hj
      omega
    rw [if_neg hcl]
    have e : (a.add (l * z)).add j = a.add (l * z + j) := by
      unfold Addr.add
      by_cases h1 : l * z = 0 <;> by_cases h2 : j = 0 <;> simp [h1, h2, Nat.add_assoc]
    rw [e]
    exact hm _ _ hv

theorem sl_cut {b o n c z cap : Nat} {a : Addr} (hA : A b) (hn : n ≤ c) (hc : c ≤ cap) (ha : 0 < cap → a = ⟨(σ b).blk, (σ b).off + o, none⟩) (hz : (σ b).off + o + cap * z ≤ (σ b).sz) {l hh : Nat} (h1 : l ≤ hh) (h2 : hh ≤ c) :
    RelV σ A M (.sl b (o + l * z) (hh - l) (c - l) z) (.slice (some (if cap = l then a else a.add (l * z))) (hh - l) (cap - l)) := by
  have e : l * z + (cap - l) * z = cap * z := by rw [← Nat.add_mul]; congr 1; omega
  refine .sl _ _ _ _ _ _ _ hA (by omega) (by omega) (fun h0 => ?_) (by omega)
  rw [if_neg (by omega), ha (by omega), add_at]
  simp [Nat.add_assoc]

theorem aSlice_ok (ok : E.Ok) (r : RelH σ A M w h) {t : TypeId} {x z : AV} {lo hi : Option AV} (hx : aSlice E h t x lo hi = some z) {v : Value} (hv : RelV σ A M x v) {vlo vhi : Option Value} (hlo : RelO σ A M lo vlo) (hhi : RelO σ A M hi vhi) :
    ∃ u, (Instr.sliceAt t v vlo vhi none).run E.P w = .ok u w ∧ RelV σ A M z u := by
  unfold aSlice at hx
  simp only [tk_eq, dp_eq, ap_eq, ln_eq, nt_eq, mp_eq, al_eq, st_eq, rpl_eq, eqN_eq, iLe_eq, iLt_eq, iEq_beq, bNot_eq, iAdd_eq, iSub_eq, wr_eq, cond_eq_if, ble_dec, natBeq, decide_eq_true_eq] at hx
  split at hx
  case h_2 => cases hx
  rename_i i hi'
  have hu := ok.und w hi'
  split at hx
  · rename_i hd
    rw [hd] at hu
    split at hx
    case h_2 => cases hx
    rename_i s
    cases hv with | s _ t e =>
    split at hx
    case h_2 => cases hx
    rename_i hh e2
    split at hx
    case h_2 => cases hx
    rename_i l e1
    cases hx
    subst e
    rw [nb_length] at e2
    obtain ⟨b1, b2, b3⟩ := sliceBounds_ok (w := w) (P := E.P) false hlo hhi .none (Nat.le_refl t.size) (Nat.le_refl t.size) e2 e1 rfl
    exact ⟨.string (t.extract l hh), by simp [Instr.sliceAt, hu, Instr.slice, b1], .s _ _ (nb_extract t l hh)⟩
  · rename_i e hd
    rw [hd] at hu
    split at hx
    case h_2 => cases hx
    rename_i j hj
    split at hx
    · rename_i b o n c z
      split at hx
      case isFalse => cases hx
      rename_i hz'
      split at hx
      case h_2 => cases hx
      rename_i hh e2
      split at hx
      case h_2 => cases hx
      rename_i l e1
      cases hx
      cases hv with | sl _ _ _ _ _ cap a hA hn hc ha hz =>
      obtain ⟨b1, b2, b3⟩ := sliceBounds_ok (w := w) (P := E.P) true hlo hhi .none hc hn e2 e1 rfl
      refine ⟨.slice (some (if cap = l then a else a.add (l * z))) (hh - l) (cap - l), ?_, sl_cut hA hn hc ha hz b2 b3⟩
      simp [Instr.sliceAt, hu, Instr.slice, b1, ok.siz w hj, hz']
      split <;> simp
    · split at hx
      case h_2 => cases hx
      rename_i hh e2
      split at hx
      case h_2 => cases hx
      rename_i l e1
      cases hx
      cases hv
      obtain ⟨b1, b2, b3⟩ := sliceBounds_ok (w := w) (P := E.P) true hlo hhi .none (Nat.le_refl 0) (Nat.le_refl 0) e2 e1 rfl
      have : l = 0 := by omega
      subst this
      have : hh = 0 := by omega
      subst this
      exact ⟨.slice none 0 0, by simp [Instr.sliceAt, hu, Instr.slice, b1, ok.siz w hj], .nils⟩
    · rename_i cs n z
      split at hx
      case isFalse => cases hx
      rename_i hz'
      split at hx
      case h_2 => cases hx
      rename_i hh e2
      split at hx
      case h_2 => cases hx
      rename_i l e1
      cases hx
      cases hv with
      | ro _ _ _ cap a vs hl hn hr hm =>
        obtain ⟨b1, b2, b3⟩ := sliceBounds_ok (w := w) (P := E.P) true hlo hhi .none hn (Nat.le_refl n) e2 e1 rfl
        refine ⟨.slice (some (if cap = l then a else a.add (l * z))) (hh - l) (cap - l), ?_, ro_cut hl hn hr hm b2 b3⟩
        simp [Instr.sliceAt, hu, Instr.slice, b1, ok.siz w hj, hz']
        split <;> simp
      | ro0 =>
        obtain ⟨b1, b2, b3⟩ := sliceBounds_ok (w := w) (P := E.P) true hlo hhi .none (Nat.le_refl 0) (Nat.le_refl 0) e2 e1 rfl
        have : l = 0 := by omega
        subst this
        have : hh = 0 := by omega
        subst this
        exact ⟨.slice none 0 0, by simp [Instr.sliceAt, hu, Instr.slice, b1, ok.siz w hj], by simpa using .ro0 z⟩
    · cases hx
  · rename_i len e hd
    rw [hd] at hu
    split at hx
    case h_2 => cases hx
    rename_i j hj
    split at hx
    case h_2 => cases hx
    rename_i b o
    split at hx
    case h_2 => cases hx
    rename_i cs hb
    split at hx
    case isFalse => cases hx
    rename_i hcond
    simp only [Bool.and_eq_true, decide_eq_true_eq] at hcond
    split at hx
    case h_2 => cases hx
    rename_i hh e2
    split at hx
    case h_2 => cases hx
    rename_i l e1
    cases hx
    cases hv with | p _ _ hA a ha =>
    obtain ⟨b1, b2, b3⟩ := sliceBounds_ok (w := w) (P := E.P) false hlo hhi .none (Nat.le_refl len) (Nat.le_refl len) e2 e1 rfl
    obtain ⟨c, ec, fr, g1, g2, g3, g4⟩ := r.blk b _ hb
    have hsz := g4.size (by omega)
    refine ⟨.slice (some (if len = l then a else a.add (l * j.size))) (hh - l) (len - l), ?_, sl_cut hA (Nat.le_refl _) (Nat.le_refl len) (fun _ => ha) (by omega) b2 b3⟩
    simp [Instr.sliceAt, hu, Instr.sureAddr, b1, ok.siz w hj]
  · cases hx

/-- x[lo:hi:max] of slices. -/
def aSlice3 (E : Env) (t : TypeId) (x : AV) (lo hi : Option AV) (mx : AV) : Option AV := match E.ty t with
  | some i => match i.desc with
    | .slice e => match E.ty e, hi with
      | some j, some hi => match x with
        | .sl b o n c z => cond (Nat.beq z j.size) (match aBound (some mx) 0 c with
          | some mm => match aBound (some hi) 0 mm with
            | some hh => match aBound lo 0 hh with
              | some l => some (.sl b (o + l * z) (hh - l) (mm - l) z)
              | none => none
            | none => none
          | none => none) none
        | .nils => match aBound (some mx) 0 0 with
          | some mm => match aBound (some hi) 0 mm with
            | some hh => match aBound lo 0 hh with
              | some l => some .nils
              | none => none
            | none => none
          | none => none
        | _ => none
      | _, _ => none
    | _ => none
  | none => none
theorem bounds3_ok {P : Program} {lo : Option AV} {hi mx : AV} {vlo : Option Value} {vhi vmx : Value} (hlo : RelO σ A M lo vlo) (hhi : RelV σ A M hi vhi) (hmx : RelV σ A M mx vmx) {len c cap mm hh l : Nat} (hc : c ≤ cap)
    (e3 : aBound (some mx) 0 c = some mm) (e2 : aBound (some hi) 0 mm = some hh) (e1 : aBound lo 0 hh = some l) : (Instr.sliceBounds true len cap vlo (some vhi) (some vmx)).run P w = .ok (l, hh, mm) w ∧ l ≤ hh ∧ hh ≤ mm ∧ mm ≤ c := by
  obtain ⟨s1, s2⟩ := aBound_some (w := w) (P := P) e3 hmx cap hc .slice3Acap
  obtain ⟨q1, q2⟩ := aBound_some (w := w) (P := P) e2 hhi mm (Nat.le_refl _) .slice3B
  cases hlo with
  | none =>
    simp only [aBound, Option.some.injEq] at e1
    subst e1
    exact ⟨by simp [Instr.sliceBounds, s1, q1], by omega, q2, s2⟩
  | some x v hx =>
    obtain ⟨r1, r2⟩ := aBound_some (w := w) (P := P) e1 hx hh (Nat.le_refl _) .slice3C
    exact ⟨by simp [Instr.sliceBounds, s1, q1, r1], r2, q2, s2⟩
theorem aSlice3_ok (ok : E.Ok) {t : TypeId} {x z : AV} {lo hi : Option AV} {mx : AV} (hx : aSlice3 E t x lo hi mx = some z) {v : Value} (hv : RelV σ A M x v) {vlo vhi : Option Value} {vmx : Value} (hlo : RelO σ A M lo vlo) (hhi : RelO σ A M hi vhi) (hmx : RelV σ A M mx vmx) :
    ∃ u, (Instr.sliceAt t v vlo vhi (some vmx)).run E.P w = .ok u w ∧ RelV σ A M z u := by
  unfold aSlice3 at hx
  split at hx
  case h_2 => cases hx
  rename_i i hi'
  have hu := ok.und w hi'
  split at hx
  case h_2 => cases hx
  rename_i e hd
  rw [hd] at hu
  split at hx
  case h_2 => cases hx
  rename_i j hi2 hj
  cases hhi with | some _ vhi hhi =>
  split at hx
  case h_3 => cases hx
  · rename_i b o n c z
    rw [cond_eq_if, natBeq] at hx
    split at hx
    case isFalse => cases hx
    rename_i hz'
    have hz' := of_decide_eq_true hz'
    split at hx
    case h_2 => cases hx
    rename_i mm e3
    split at hx
    case h_2 => cases hx
    rename_i hh e2
    split at hx
    case h_2 => cases hx
    rename_i l e1
    cases hx
    cases hv with | sl _ _ _ _ _ cap a hA hn hc ha hz =>
    obtain ⟨b1, b2, b3, b4⟩ := bounds3_ok (w := w) (P := E.P) (len := n) hlo hhi hmx hc e3 e2 e1
    have hzz : mm * z ≤ cap * z := Nat.mul_le_mul_right _ (by omega)
    refine ⟨.slice (some (if mm = l then a else a.add (l * z))) (hh - l) (mm - l), ?_, sl_cut hA (Nat.le_refl mm) (Nat.le_refl mm) (fun h0 => ha (by omega)) (by omega) b2 b3⟩
    simp [Instr.sliceAt, hu, Instr.slice, b1, ok.siz w hj, hz']
    split <;> simp
  · split at hx
    case h_2 => cases hx
    rename_i mm e3
    split at hx
    case h_2 => cases hx
    rename_i hh e2
    split at hx
    case h_2 => cases hx
    rename_i l e1
    cases hx
    cases hv
    obtain ⟨b1, b2, b3, b4⟩ := bounds3_ok (w := w) (P := E.P) (len := 0) hlo hhi hmx (Nat.le_refl 0) e3 e2 e1
    have : mm = 0 := by omega
    subst this
    have : hh = 0 := by omega
    subst this
    have : l = 0 := by omega
    subst this
    exact ⟨.slice none 0 0, by simp [Instr.sliceAt, hu, Instr.slice, b1, ok.siz w hj], .nils⟩

/-! #### Copying -/
/-- The cells of a source, and how many elements. -/
def aSrc (h : H) (z : Nat) : AV → Option (List AV × Nat)
  | .sl b o n _ z' => match h.get b with
    | some (.cells cs) => cond (and (Nat.beq z' z) (Nat.ble (o + n * z) (ln cs))) (some (tk (n * z) (dp o cs), n)) none
    | _ => cond (Nat.beq n 0) (some ([], 0)) none
  | .nils => some ([], 0)
  | .ro cs n z' => cond (Nat.beq z' z) (some (cs, n)) none
  | .s l => cond (Nat.beq z 1) (some (mp (fun (b : Nat) => AV.i .u8 (b : Int)) l, ln l)) none
  | _ => none
theorem rel_bytes (s : ByteArray) : RelL σ A M ((nb s).map fun (b : Nat) => AV.i .u8 (b : Int)) (s.data.map fun b => Value.int .u8 b.toNat).toList := by
  simp only [nb, Array.toList_map]
  induction s.data.toList with
  | nil => exact .nil
  | cons b l ih => exact .cons _ _ _ _ (.i _ _) ih
theorem aSrc_ok {P : Program} (r : RelH σ A M w h) {z : Nat} {x : AV} {xs : List AV} {n : Nat} (hx : aSrc h z x = some (xs, n)) {v : Value} (hv : RelV σ A M x v) :
    Builtin.lenOf v = pure n ∧ ∃ vs : Array Value, RelL σ A M xs vs.toList ∧ xs.length = n * z ∧ ∀ m, m ≤ n → (Builtin.firstCells z m v).run P w = .ok (vs.toList.take (m * z)).toArray w := by
  have hmul : ∀ m, m ≤ n → m * z ≤ n * z := fun m hm => Nat.mul_le_mul_right _ hm
  unfold aSrc at hx
  simp only [tk_eq, dp_eq, ap_eq, ln_eq, nt_eq, mp_eq, al_eq, st_eq, rpl_eq, eqN_eq, iLe_eq, iLt_eq, iEq_beq, bNot_eq, iAdd_eq, iSub_eq, wr_eq, cond_eq_if, ble_dec, natBeq, decide_eq_true_eq] at hx
  split at hx
  · rename_i b o n' c z'
    cases hv with | sl _ _ _ _ _ cap a hA hn hc ha hz =>
    split at hx
    · rename_i cs hb
      split at hx
      · rename_i hcond
        simp only [Bool.and_eq_true, decide_eq_true_eq] at hcond
        cases hx
        obtain ⟨vs, g1, g2, g3⟩ := cells_of r hb o (n * z) hcond.2
        refine ⟨rfl, vs.toArray, by simpa using g2, by simp; omega, fun m hm => ?_⟩
        simp only [Builtin.firstCells]
        by_cases h0 : m * z = 0
        · rw [h0]; simp [loadCells, loadCellsFrom]
        · have hcap : 0 < cap := by
            rcases Nat.eq_zero_or_pos cap with h | h
            · have : m = 0 := by omega
              subst this; simp at h0
            · exact h
          have hm' := hmul m hm
          refine loadCells_of P a (vs.take (m * z)) (fun j u hu => ?_) (by simp; omega)
          have hj : j < m * z := by
            have := (List.getElem?_eq_some_iff.1 hu).1
            simp at this; omega
          rw [List.getElem?_take_of_lt hj] at hu
          rw [ha hcap]
          exact g3 j u hu
      · cases hx
    · split at hx
      · rename_i h0
        cases hx
        subst h0
        refine ⟨rfl, #[], .nil, by simp, fun m hm => ?_⟩
        have : m = 0 := by omega
        subst this
        simp [Builtin.firstCells, loadCells, loadCellsFrom]
      · cases hx
  · cases hx
    cases hv
    refine ⟨rfl, #[], .nil, by simp, fun m hm => by simp [Builtin.firstCells]⟩
  · rename_i cs n' z'
    split at hx
    case isFalse => cases hx
    rename_i hz
    subst hz
    cases hx
    cases hv with
    | ro _ _ _ cap a vs hl hn hr hm =>
      have hlv := hr.length
      refine ⟨rfl, vs.toArray, by simpa using hr, hl, fun m hm' => ?_⟩
      have hm2 := hmul m hm'
      simp only [Builtin.firstCells]
      refine loadCells_of P a (vs.take (m * z')) (fun j u hu => ?_) (by simp; omega)
      have hj : j < m * z' := by
        have := (List.getElem?_eq_some_iff.1 hu).1
        simp at this; omega
      rw [List.getElem?_take_of_lt hj] at hu
      exact (r.stay _ _ (hm j u hu)).1
    | ro0 => exact ⟨rfl, #[], .nil, by simp, fun m hm => by simp [Builtin.firstCells]⟩
  · rename_i l
    split at hx
    case isFalse => cases hx
    rename_i hz
    subst hz
    cases hx
    cases hv with | s _ s e =>
    subst e
    refine ⟨by rw [nb_length]; rfl, (s.data.map fun b => Value.int .u8 b.toNat), rel_bytes s, by simp, fun m hm => ?_⟩
    simp only [Builtin.firstCells]
    simp only [Sem.run_pure]
    congr 1
    apply Array.ext'
    simp [ByteArray.data_extract, List.extract_eq_take_drop]
  · cases hx

def aCopy (E : Env) (h : H) (t : TypeId) (x y : AV) : Option (AV × H) := match E.ty t with
  | some i => match i.desc with
    | .slice e => match E.ty e with
      | some j => match aSrc h j.size y with
        | some (ys, n) => match x with
          | .sl b o m _ z => cond (Nat.beq z j.size)
            (cond (Nat.beq (min n m * z) 0) (some (.i .i64 (min n m : Nat), h)) (
            match hStore h b o (tk (min n m * z) ys) with
            | some h' => some (.i .i64 (min n m : Nat), h')
            | none => none)) none
          | .nils => some (.i .i64 0, h)
          | _ => none
        | none => none
      | none => none
    | _ => none
  | none => none

theorem aCopy_ok (ok : E.Ok) (r : RelH σ A M w h) {t : TypeId} {x y z : AV} {h' : H} (hx : aCopy E h t x y = some (z, h')) {v u : Value} (hv : RelV σ A M x v) (hu : RelV σ A M y u) (ts : Array TypeId) (ht : ts[0]? = some t) (ty : TypeId) :
    Made E σ A M w h (Builtin.copy_ ts ty #[v, u]) z h' := by
  unfold aCopy at hx
  simp only [tk_eq, dp_eq, ap_eq, ln_eq, nt_eq, mp_eq, al_eq, st_eq, rpl_eq, eqN_eq, iLe_eq, iLt_eq, iEq_beq, bNot_eq, iAdd_eq, iSub_eq, wr_eq, cond_eq_if, ble_dec, natBeq, decide_eq_true_eq] at hx
  split at hx
  case h_2 => cases hx
  rename_i i hi
  have hund := ok.und w hi
  split at hx
  case h_2 => cases hx
  rename_i e hd
  rw [hd] at hund
  split at hx
  case h_2 => cases hx
  rename_i j hj
  split at hx
  case h_2 => cases hx
  rename_i ys n hsrc
  obtain ⟨hlen, vs, g1, g2, g3⟩ := aSrc_ok (P := E.P) r hsrc hu
  split at hx
  · rename_i b o m c z'
    split at hx
    case isFalse => cases hx
    rename_i hz
    subst hz
    cases hv with | sl _ _ _ _ _ cap a hA hn hc ha hzz =>
    have hf := g3 (min n m) (Nat.min_le_left _ _)
    split at hx
    · rename_i h0
      cases hx
      refine Made.same r ⟨.int .i64 (min n m : Nat), ?_, .i _ _⟩
      rw [h0] at hf
      have hmin : Nat.min n m = min n m := rfl
      simp [Builtin.copy_, ht, hund, hlen, ok.siz w hj, hmin, hf, storeCells, goInt]
    · rename_i h0
      split at hx
      case h_2 => cases hx
      rename_i h1 hs
      cases hx
      have hcap : 0 < cap := by
        rcases Nat.eq_zero_or_pos cap with h | h
        · have : m = 0 := by omega
          subst this; simp at h0
        · exact h
      have hrl := g1.take (min n m * j.size)
      obtain ⟨w', r1, r2, r3⟩ := hStore_ok E.P r hs hrl
      refine ⟨.int .i64 (min n m : Nat), w', ?_, σ, A, r2, .i _ _, r3⟩
      have hmin : Nat.min n m = min n m := rfl
      simp [Builtin.copy_, ht, hund, hlen, ok.siz w hj, hmin, hf, ha hcap, r1, goInt]
  · cases hx
    cases hv
    refine Made.same r ⟨.int .i64 0, ?_, .i _ _⟩
    have hf := g3 0 (Nat.zero_le _)
    have hmin : Nat.min n 0 = 0 := Nat.min_zero n
    simp only [Nat.zero_mul, List.take_zero] at hf
    simp [Builtin.copy_, ht, hund, hlen, ok.siz w hj, hmin, hf, goInt]
  · cases hx

/-! #### Appending -/
/-- The type of what is appended: a slice or a string. -/
def TI.isSrc (k : TI) : Bool := match k.desc with | .slice _ => true | .string => true | _ => false
def aAppend (E : Env) (h : H) (t u : TypeId) (x y : AV) : Option (AV × H) := match E.ty t, E.ty u with
  | some i, some k => cond k.isSrc (match i.desc with
    | .slice e => match E.ty e with
      | some j => match aSrc h j.size y with
        | some (ys, n) => cond (and (al AV.one ys) (and (Nat.ble 1 j.size) (Nat.ble 1 j.bytes))) (match x with
          | .nils => cond (Nat.beq n 0) (some (.nils, h)) (cond (Nat.ble (n * j.bytes) 140737488355328) (some (.sl h.next 0 n n j.size, h.push (.cells ys))) none)
          | .sl b o m c z => cond (Nat.beq z j.size) (cond (Nat.beq n 0) (some (.sl b o m c z, h)) (
            match h.get b with
            | some (.cells cs) =>
              cond (Nat.ble (m + n) c) (match hStore h b (o + m * z) ys with
                | some h' => some (.sl b o (m + n) c z, h')
                | none => none)
              (cond (and (Nat.ble ((m + n) * j.bytes) 140737488355328) (Nat.ble (o + m * z) (ln cs))) (match h.write b .dead with
                | some h' => some (.sl h'.next 0 (m + n) (m + n) z, h'.push (.cells (ap (tk (m * z) (dp o cs)) ys)))
                | none => none)
              none)
            | _ => none)) none
          | _ => none) none
        | none => none
      | none => none
    | _ => none) none
  | _, _ => none

/-- A block goes by another number, and from another place on. -/
theorem rename_ok (r : RelH σ A M w h) {b o : Nat} {cs : List AV} (hb : h.get b = some (.cells cs)) (ho : o ≤ cs.length) {h' : H} (hn : h'.next = h.next + h.st) (hst : h'.st = h.st) (hw : h'.wb = h.wb) (hwb : h.wb ≤ b)
    (hg : ∀ j, h'.get j = if j = h.next then some (.cells (cs.drop o)) else if j = b then some .dead else h.get j) :
    Step σ A w h (upd σ h.next ⟨(σ b).blk, (σ b).off + o, (σ b).sz⟩) (fun j => A j ∨ j = h.next) w h' ∧ RelH (upd σ h.next ⟨(σ b).blk, (σ b).off + o, (σ b).sz⟩) (fun j => A j ∨ j = h.next) M w h' := by
  have hA := r.dom b _ hb
  have hpos := r.pos
  have hag := upd_agree r ⟨(σ b).blk, (σ b).off + o, (σ b).sz⟩
  have hold : ∀ j x, h'.get j = some x → x.live = true → j ≠ h.next → h.get j = some x ∧ j ≠ b := fun j x e l hj => by
    rw [hg, if_neg hj] at e
    split at e
    · cases e; simp [ABlk.live] at l
    · exact ⟨e, by assumption⟩
  have hnew : ∀ x, h'.get h.next = some x → x = .cells (cs.drop o) := fun x e => by rw [hg, if_pos rfl] at e; cases e; rfl
  have hOwn : Own σ h (σ b).blk := ⟨b, _, hb, rfl, rfl⟩
  refine ⟨⟨hag, fun j a => ?_, rfl, rfl, rfl, Nat.le_refl _, fun _ _ _ => rfl, fun k o' => ?_, by omega, hw, fun j hj => ?_, hst, by rw [hn, Nat.add_mod_right], fun j hj => by
    rw [hg]
    by_cases e : j = h.next
    · exact .inr ⟨by omega, by rw [e]⟩
    · rw [if_neg e]
      by_cases e2 : j = b
      · rw [e2, hb] at hj; cases hj
      · rw [if_neg e2]; exact .inl hj⟩, ⟨fun j a => ?_, fun j x e => ?_, fun j x e => ?_, fun j x j' x' e e' l l' hne => ?_, fun ad v hM => ⟨(r.stay ad v hM).1, fun j x e l => ?_⟩, ?_, by rw [hst]; exact hpos⟩⟩
  · rcases a with a | a
    · exact .inl a
    · exact .inr ⟨by omega, by omega, by rw [a]⟩
  · obtain ⟨j, x, e, l, rfl⟩ := o'
    by_cases hj : j = h.next
    · subst hj; rw [upd_same]; exact .inl hOwn
    · rw [upd_ne σ _ hj]; exact .inl ⟨j, x, (hold j x e l hj).1, l, rfl⟩
  · have := r.wb
    rw [hg, if_neg (by omega), if_neg (by omega)]
  · rw [hn, hst, Nat.add_mod_right]
    rcases a with a | a
    · rcases r.bound j a with h1 | h1
      · exact .inl (by omega)
      · exact .inr h1
    · exact .inl (by omega)
  · by_cases hj : j = h.next
    · exact .inr hj
    · rw [hg, if_neg hj] at e
      split at e
      · rename_i hjb; subst hjb; exact .inl hA
      · exact .inl (r.dom j x e)
  · by_cases hj : j = h.next
    · subst hj
      rw [hnew x e]
      obtain ⟨c, ec, fr, g1, g2, g3, g4⟩ := r.blk b _ hb
      refine ⟨c, ec, fr, by rw [upd_same]; exact g1, by rw [upd_same]; exact g2, g3, ?_⟩
      rw [upd_same]
      intro i y hy
      rw [List.getElem?_drop] at hy
      obtain ⟨v, hv, hr⟩ := g4 _ _ hy
      exact ⟨v, by rw [← hv]; congr 1; simp; omega, hr.move hag⟩
    · rw [hg, if_neg hj] at e
      split at e
      · cases e; trivial
      · exact RelB.move hag (r.dom j x e) (fun _ => rfl) (r.blk j x e)
  · by_cases hj : j = h.next
    · subst hj
      have hj' : j' ≠ h.next := fun e => hne e.symm
      obtain ⟨e', hb'⟩ := hold j' x' e' l' hj'
      rw [upd_same, upd_ne σ _ hj']
      exact r.inj b _ j' x' hb e' rfl l' (fun e => hb' e.symm)
    · obtain ⟨e, hbj⟩ := hold j x e l hj
      by_cases hj' : j' = h.next
      · subst hj'
        rw [upd_same, upd_ne σ _ hj]
        exact r.inj j x b _ e hb l rfl hbj
      · obtain ⟨e', hb'⟩ := hold j' x' e' l' hj'
        rw [upd_ne σ _ hj, upd_ne σ _ hj']
        exact r.inj j x j' x' e e' l l' hne
  · by_cases hj : j = h.next
    · subst hj; rw [upd_same]; exact (r.stay ad v hM).2 b _ hb rfl
    · rw [upd_ne σ _ hj]; exact (r.stay ad v hM).2 j x (hold j x e l hj).1 l
  · rw [hw, hn]; have := r.wb; omega

theorem size_zeroCells' (z : Array Value) (n : Nat) : (Builtin.zeroCells z n).size = n * z.size := by simp [Builtin.zeroCells]

/-- A new row that begins with these cells. -/
theorem push_prefix (r : RelH σ A M w h) (cs : List AV) (c : Array Value) (e : TypeId) (vs : List Value) (hc : RelL σ A M cs vs) (hp : ∀ (j : Nat) (v : Value), vs[j]? = some v → c[j]? = some v) :
    Step σ A w h (upd σ h.next ⟨w.heap.size, 0, c.size⟩) (fun b => A b ∨ b = h.next) (w.alloc (.cells c e)) (h.push (.cells cs)) ∧ RelH (upd σ h.next ⟨w.heap.size, 0, c.size⟩) (fun b => A b ∨ b = h.next) M (w.alloc (.cells c e)) (h.push (.cells cs)) := by
  refine push_ok r _ _ _ (fun _ => rfl) ⟨c, e, (0, 0), ?_, ?_, fun j hj => by simp, ?_⟩
  · rw [upd_same]; exact heap_alloc_new w _
  · rw [upd_same]
  · rw [upd_same]
    intro j x hx
    obtain ⟨v, hv, hr⟩ := hc.get hx
    exact ⟨v, by simpa using hp j v hv, hr.move (upd_agree r _)⟩
end
end
end Go.Proofs.YtfaemheimmndgaaGreatDoor.XI
