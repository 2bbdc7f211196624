/- New blocks: variables, literals. Part of a verified reckoner of runs: no condition. -/
import Derived.Test.YtfaemheimmndgaaGreatDoorXD
import Derived.Laws.AppendOwn
import Derived.Laws.MakeOwn
import Derived.Laws.BytesString
import Derived.Laws.BytesArg
import Derived.Lib.ConvBytes
set_option linter.unusedVariables false
set_option linter.unusedSimpArgs false
namespace Go.Proofs.YtfaemheimmndgaaGreatDoor.XI
noncomputable section

section
variable {E : Env} {σ : Nat → Loc} {A : Nat → Prop} {M : Mem} {w : World} {h : H}

/-- What a value-making operation leaves. -/
def Made (E : Env) (σ : Nat → Loc) (A : Nat → Prop) (M : Mem) (w : World) (h : H) (s : Sem Value) (z : AV) (h' : H) : Prop :=
  ∃ v w', s.run E.P w = .ok v w' ∧ ∃ σ' A', Step σ A w h σ' A' w' h' ∧ RelV σ' A' M z v ∧ RelH σ' A' M w' h'

theorem Made.same {s : Sem Value} {z : AV} (r : RelH σ A M w h) (hv : ∃ v, s.run E.P w = .ok v w ∧ RelV σ A M z v) : Made E σ A M w h s z h :=
  let ⟨v, h1, h2⟩ := hv
  ⟨v, w, h1, σ, A, Step.refl _ _ _ _, h2, r⟩

/-! ### 7. New memory -/
/-- n times the cells zs. -/
def aRep (n : Nat) (zs : List AV) : List AV := match zs with
  | [z] => rpl n z
  | _ => (List.range (n * zs.length)).map fun j => (zs[j % zs.length]?).getD .any

theorem aRep_ok (n : Nat) {zs : List AV} {za : Array Value} (hr : RelL σ A M zs za.toList) (m : Nat) (hm : m = n * za.size) :
    RelL σ A M (aRep n zs) ((Array.range m).map fun j => za[j % za.size]!).toList := by
  subst hm
  have hl := hr.length
  simp only [Array.length_toList] at hl
  have key : RelL σ A M ((List.range (n * zs.length)).map fun j => (zs[j % zs.length]?).getD .any) ((Array.range (n * za.size)).map fun j => za[j % za.size]!).toList := by
    refine RelL.of_get (by simp [hl]) fun j x v hx hv => ?_
    have hj : j < n * zs.length := by
      have := (List.getElem?_eq_some_iff.1 hx).1
      simpa using this
    have h0 : 0 < zs.length := by
      rcases Nat.eq_zero_or_pos zs.length with h | h
      · rw [h] at hj; simp at hj
      · exact h
    have hmod : j % zs.length < zs.length := Nat.mod_lt _ h0
    simp [hj] at hx
    rw [List.getElem?_eq_getElem hmod] at hx
    obtain ⟨u, hu, hru⟩ := hr.get (List.getElem?_eq_getElem hmod)
    rw [hl] at hj hmod hu
    simp [hj] at hv
    have hu' : za[j % za.size]? = some u := by simpa using hu
    simp only [Option.getD_some] at hx
    rw [← hx, ← hv]
    simp only [getElem!_def, hu']
    exact hru
  unfold aRep
  simp only [tk_eq, dp_eq, ap_eq, ln_eq, nt_eq, mp_eq, al_eq, st_eq, rpl_eq, eqN_eq, iLe_eq, iLt_eq, iEq_beq, bNot_eq, iAdd_eq, iSub_eq, wr_eq, cond_eq_if, ble_dec, natBeq]
  split
  · rename_i z
    have hz : za.size = 1 := by simpa using hl.symm
    have : (List.range (n * [z].length)).map (fun j => ([z][j % [z].length]?).getD .any) = List.replicate n z := by
      apply List.ext_getElem
      · simp
      · intro i h1 h2
        simp [Nat.mod_one]
    rw [this] at key
    exact key
  · exact key

theorem rel_zc (ok : E.Ok) {t : TypeId} {i : TI} (ht : E.ty t = some i) : RelL σ A M i.zv.cells i.zero.cells.toList := (rel_ofV i.zero).cells (ok.zv t i ht)

def aAlloc (E : Env) (h : H) (t : TypeId) : Option (AV × H) := match E.ty t with
  | some i => some (.p h.next 0, h.push (.cells i.zv.cells))
  | none => none
theorem rel_new {b : Nat} {l : Loc} (hA : A b) (hs : σ b = l) (hb : l.off = 0) : RelV σ A M (.p b 0) (.pointer (some ⟨l.blk, 0, none⟩)) := .p _ _ hA _ (by rw [hs, hb])
theorem made_push (r : RelH σ A M w h) {cs : List AV} {c : Array Value} {e : TypeId} (hc : RelL σ A M cs c.toList) {s : Sem Value} (hs : s.run E.P w = .ok (.pointer (some ⟨w.heap.size, 0, none⟩)) (w.alloc (.cells c e))) :
    Made E σ A M w h s (.p h.next 0) (h.push (.cells cs)) := by
  obtain ⟨h1, h2⟩ := push_cells r cs c e hc
  exact ⟨_, _, hs, _, _, h1, rel_new (.inr rfl) (upd_same _ _ _) rfl, h2⟩
theorem aAlloc_ok (ok : E.Ok) (r : RelH σ A M w h) {t : TypeId} {z : AV} {h' : H} (hx : aAlloc E h t = some (z, h')) (old : Value) : Made E σ A M w h (Instr.alloc t true old) z h' := by
  unfold aAlloc at hx
  split at hx
  case h_2 => cases hx
  rename_i i hi
  cases hx
  refine made_push r (rel_zc ok hi) (c := i.zero.cells) (e := t) ?_
  simp [Instr.alloc, ok.zer w hi, newVar, newRow]

def isAny : AV → Bool | .any => true | _ => false
theorem not_any {x : AV} (h : isAny x = false) : x ≠ .any := by rintro rfl; cases h

def aBox (h : H) (x : AV) : Option (AV × H) := if isAny x then none else some (.p h.next 0, h.push (.cells x.cells))
theorem aBox_ok (r : RelH σ A M w h) {t : TypeId} {x z : AV} {h' : H} (hx : aBox h x = some (z, h')) {v : Value} (hv : RelV σ A M x v) : Made E σ A M w h (Instr.box t v) z h' := by
  unfold aBox at hx
  split at hx
  · cases hx
  · rename_i ha
    cases hx
    refine made_push r (hv.cells (not_any (by simpa using ha))) (c := v.cells) (e := t) ?_
    simp [Instr.box, newVar, newRow]

/-! Literals. -/
def aFill (place : Nat → Option (Nat × Nat)) (cs : List AV) : List (Nat × AV) → Option (List AV)
  | [] => some cs
  | (i, x) :: rest => match place i with
    | none => none
    | some (off, size) => cond (and (bNot (isAny x)) (and (Nat.beq (ln x.cells) size) (Nat.ble (off + size) (ln cs)))) (aFill place (aPut cs off x.cells) rest) none

theorem foldl_putAt (off : Nat) : ∀ (l : List Value) (n : Nat) (c : Array Value), (l.zipIdx n).foldl (fun cs (p : Value × Nat) => cs.setIfInBounds (off + p.2) p.1) c = putAt c (off + n) l
  | [], _, _ => rfl
  | v :: l, n, c => by
    simp only [List.zipIdx_cons, List.foldl_cons, putAt]
    exact foldl_putAt off l (n + 1) _

theorem RelL.put {cs : List AV} {c : Array Value} (r : RelL σ A M cs c.toList) {xs : List AV} {vs : List Value} (hx : RelL σ A M xs vs) {o : Nat} (ho : o + xs.length ≤ cs.length) : RelL σ A M (aPut cs o xs) (putAt c o vs).toList := by
  have hl := r.length
  have hlx := hx.length
  simp only [Array.length_toList] at hl
  have hlen : (aPut cs o xs).length = cs.length := by simp [aPut_eq]; omega
  refine RelL.of_get (by rw [hlen]; simp [size_putAt, hl]) fun j x v h1 h2 => ?_
  rw [aPut_get ho] at h1
  have h2' : (putAt c o vs)[j]? = some v := by simpa using h2
  rw [get_putAt _ _ _ (by omega)] at h2'
  split at h1
  · rename_i hj
    rw [if_pos (by omega)] at h2'
    obtain ⟨u, hu, hr⟩ := hx.get h1
    rw [h2'] at hu
    cases hu
    exact hr
  · rename_i hj
    rw [if_neg (by omega)] at h2'
    obtain ⟨u, hu, hr⟩ := r.get h1
    have : c.toList[j]? = some v := by simpa using h2'
    rw [this] at hu
    cases hu
    exact hr

theorem aFill_ok {place : Nat → Option (Nat × Nat)} : ∀ {xs : List (Nat × AV)} {vs : List (Nat × Value)} {cs : List AV} {c : Array Value} {z : List AV},
    RelL σ A M (xs.map (·.2)) (vs.map (·.2)) → xs.map (·.1) = vs.map (·.1) → RelL σ A M cs c.toList → aFill place cs xs = some z → ∃ c', Instr.fill place c vs = some c' ∧ RelL σ A M z c'.toList
  | [], [], cs, c, z, _, _, hc, hz => by simp only [aFill, Option.some.injEq] at hz; subst hz; exact ⟨c, rfl, hc⟩
  | (i, x) :: xs, (j, v) :: vs, cs, c, z, hr, hi, hc, hz => by
    simp only [List.map_cons, List.cons.injEq] at hi
    obtain ⟨rfl, hi⟩ := hi
    simp only [List.map_cons] at hr
    cases hr with | cons _ _ _ _ h1 t1 =>
    have h1 : RelV σ A M x v := h1
    simp only [aFill] at hz
    simp only [Instr.fill]
    split at hz
    · cases hz
    · rename_i off size hp
      simp only [tk_eq, dp_eq, ap_eq, ln_eq, nt_eq, mp_eq, al_eq, st_eq, rpl_eq, eqN_eq, iLe_eq, iLt_eq, iEq_beq, bNot_eq, iAdd_eq, iSub_eq, wr_eq, cond_eq_if, ble_dec, natBeq] at hz
      split at hz
      case isFalse => cases hz
      · rename_i hcond
        simp only [Bool.and_eq_true, decide_eq_true_eq, Bool.not_eq_true'] at hcond
        obtain ⟨ha, hs, ho⟩ := hcond
        have hcells := h1.cells (not_any ha)
        have hl := hcells.length
        have hlc := hc.length
        simp only [Array.length_toList] at hl hlc
        rw [hp]
        have e : ¬ (v.cells.size ≠ size || decide (off + v.cells.size > c.size)) = true := by
          simp only [Bool.or_eq_true, decide_eq_true_eq, not_or]
          omega
        simp only []
        rw [if_neg (by omega)]
        have hfold : v.cells.zipIdx.foldl (fun cs (p : Value × Nat) => cs.setIfInBounds (off + p.2) p.1) c = putAt c off v.cells.toList := by
          rw [← Array.foldl_toList, Array.toList_zipIdx]
          exact foldl_putAt off v.cells.toList 0 c
        rw [hfold]
        exact aFill_ok t1 hi (hc.put hcells (by omega)) hz
  | [], _ :: _, _, _, _, hr, _, _, _ => by cases hr
  | _ :: _, [], _, _, _, hr, _, _, _ => by cases hr

theorem rel_parts {fr : Fr} {a : Act} (r : RelA σ A M fr a) (parts : Array (Nat × Operand)) :
    RelL σ A M ((mp (fun p => (p.1, ev fr p.2)) parts.toList).map (·.2)) (((parts.map fun (i, x) => (i, a.eval x)).toList).map (·.2)) ∧ (mp (fun p => (p.1, ev fr p.2)) parts.toList).map (·.1) = ((parts.map fun (i, x) => (i, a.eval x)).toList).map (·.1) := by
  rw [Array.toList_map, mp_eq]
  induction parts.toList with
  | nil => exact ⟨.nil, rfl⟩
  | cons p ps ih =>
    obtain ⟨i, x⟩ := p
    exact ⟨.cons _ _ _ _ (r.ev x) ih.1, by simp only [List.map_cons, ih.2]⟩

def aBuild (E : Env) (t : TypeId) (parts : List (Nat × AV)) : Option AV := match E.ty t with
  | some i => match i.desc with
    | .struct _ => (aFill (nt i.places) i.zv.cells parts).map .agg
    | .array _ e => match E.ty e with
      | some j => (aFill (fun n => some (n * j.size, j.size)) i.zv.cells parts).map .agg
      | none => none
    | _ => none
  | none => none
theorem aBuild_ok (ok : E.Ok) {t : TypeId} {xs : List (Nat × AV)} {vs : Array (Nat × Value)} {z : AV} (hx : aBuild E t xs = some z) (hr : RelL σ A M (xs.map (·.2)) (vs.toList.map (·.2))) (hi : xs.map (·.1) = vs.toList.map (·.1)) :
    ∃ v, (Instr.build t vs).run E.P w = .ok v w ∧ RelV σ A M z v := by
  unfold aBuild at hx
  split at hx
  case h_2 => cases hx
  rename_i i hti
  have hu := ok.und w hti
  split at hx
  · rename_i fs hd
    rw [hd] at hu
    simp only [Option.map_eq_some_iff] at hx
    obtain ⟨cs, hf, rfl⟩ := hx
    obtain ⟨c', h1, h2⟩ := aFill_ok hr hi (rel_zc ok hti) hf
    have hpl : (fun (n : Nat) => i.places.toArray[n]?) = nt i.places := by funext n; simp [nt_eq]
    refine ⟨.agg c', ?_, .agg _ _ h2⟩
    unfold Instr.build
    simp only [Sem.run_bind, ok.zer w hti, hu, Result.andThen_ok]
    rw [ok.places t i fs hti hd w]
    simp only [Result.andThen_ok, hpl, h1]
    rfl
  · rename_i len e hd
    rw [hd] at hu
    split at hx
    case h_2 => cases hx
    rename_i j hj
    simp only [Option.map_eq_some_iff] at hx
    obtain ⟨cs, hf, rfl⟩ := hx
    obtain ⟨c', h1, h2⟩ := aFill_ok hr hi (rel_zc ok hti) hf
    exact ⟨.agg c', by simp [Instr.build, ok.zer w hti, hu, ok.siz w hj, h1], .agg _ _ h2⟩
  · cases hx

/-- A new slice over a new block. -/
theorem rel_sl_new {b n c z cap : Nat} {l : Loc} (hA : A b) (hs : σ b = l) (h0 : l.off = 0) (hn : n ≤ c) (hc : c ≤ cap) (hz : cap * z ≤ l.sz) : RelV σ A M (.sl b 0 n c z) (.slice (some ⟨l.blk, 0, none⟩) n cap) :=
  .sl _ _ _ _ _ _ _ hA hn hc (fun _ => by rw [hs, h0]) (by rw [hs, h0]; omega)

def aBuildSlice (E : Env) (h : H) (t : TypeId) (len : Nat) (parts : List (Nat × AV)) : Option (AV × H) := match E.ty t with
  | some i => match i.desc with
    | .slice e => match E.ty e with
      | some j => cond (and (Nat.ble (len * j.size) 16777216) (Nat.beq (ln j.zv.cells) j.size)) (
        match aFill (fun n => some (n * j.size, j.size)) (aRep len j.zv.cells) parts with
        | some cs => some (.sl h.next 0 len len j.size, h.push (.cells cs))
        | none => none) none
      | none => none
    | _ => none
  | none => none
theorem aRep_zero (zs : List AV) : aRep 0 zs = [] := by
  unfold aRep
  simp only [tk_eq, dp_eq, ap_eq, ln_eq, nt_eq, mp_eq, al_eq, st_eq, rpl_eq, eqN_eq, iLe_eq, iLt_eq, iEq_beq, bNot_eq, iAdd_eq, iSub_eq, wr_eq, cond_eq_if, ble_dec, natBeq]
  split <;> simp
theorem aBuildSlice_ok (ok : E.Ok) (r : RelH σ A M w h) {t : TypeId} {len : Nat} {xs : List (Nat × AV)} {vs : Array (Nat × Value)} {z : AV} {h' : H} (hx : aBuildSlice E h t len xs = some (z, h'))
    (hr : RelL σ A M (xs.map (·.2)) (vs.toList.map (·.2))) (hi : xs.map (·.1) = vs.toList.map (·.1)) : Made E σ A M w h (Instr.buildSlice t len vs) z h' := by
  unfold aBuildSlice at hx
  simp only [tk_eq, dp_eq, ap_eq, ln_eq, nt_eq, mp_eq, al_eq, st_eq, rpl_eq, eqN_eq, iLe_eq, iLt_eq, iEq_beq, bNot_eq, iAdd_eq, iSub_eq, wr_eq, cond_eq_if, ble_dec, natBeq] at hx
  split at hx
  case h_2 => cases hx
  rename_i i hti
  have hu := ok.und w hti
  split at hx
  case h_2 => cases hx
  rename_i e hd
  rw [hd] at hu
  split at hx
  case h_2 => cases hx
  rename_i j hj
  split at hx
  case isFalse => cases hx
  rename_i hcond
  simp only [Bool.and_eq_true, decide_eq_true_eq] at hcond
  obtain ⟨hlim, hzs⟩ := hcond
  split at hx
  case h_2 => cases hx
  rename_i cs hf
  cases hx
  have hzc := rel_zc (σ := σ) (A := A) (M := M) ok hj
  have hzl := hzc.length
  simp only [Array.length_toList] at hzl
  have hsz : j.zero.cells.size = j.size := by omega
  -- the cells before the parts are laid
  have hbase : ∃ za : Array Value, (len * j.size = 0 → za = #[]) ∧ (¬ len * j.size = 0 → za = j.zero.cells) ∧ RelL σ A M (aRep len j.zv.cells) ((Array.range (len * j.size)).map (za[· % za.size]!)).toList := by
    by_cases h0 : len * j.size = 0
    · refine ⟨#[], fun _ => rfl, fun hn => absurd h0 hn, ?_⟩
      rw [h0]
      have : aRep len j.zv.cells = [] := by
        have hl := (aRep_ok (σ := σ) (A := A) (M := M) len hzc (len * j.zero.cells.size) rfl).length
        rw [hsz, h0] at hl
        exact List.eq_nil_of_length_eq_zero (by simpa using hl)
      rw [this]
      simpa using RelL.nil
    · exact ⟨j.zero.cells, fun hy => absurd hy h0, fun _ => rfl, aRep_ok len hzc _ (by rw [hsz])⟩
  obtain ⟨za, hz0, hz1, hz2⟩ := hbase
  obtain ⟨c', h1, h2⟩ := aFill_ok hr hi hz2 hf
  have hlen : c'.size = len * j.size := by
    have e1 := h2.length
    have e2 : cs.length = (aRep len j.zv.cells).length := by
      clear h1 h2 hz0 hz1 e1
      revert hf
      generalize aRep len j.zv.cells = base
      clear hr hi hz2
      induction xs generalizing base with
      | nil => intro hf; simp only [aFill, Option.some.injEq] at hf; rw [hf]
      | cons p ps ih =>
        obtain ⟨n, x⟩ := p
        intro hf
        simp only [aFill] at hf
        simp only [tk_eq, dp_eq, ap_eq, ln_eq, nt_eq, mp_eq, al_eq, st_eq, rpl_eq, eqN_eq, iLe_eq, iLt_eq, iEq_beq, bNot_eq, iAdd_eq, iSub_eq, wr_eq, cond_eq_if, ble_dec, natBeq] at hf
        split at hf
        case isFalse => cases hf
        · rename_i hc
          simp only [Bool.and_eq_true, decide_eq_true_eq] at hc
          rw [ih _ hf]
          simp [aPut_eq]
          omega
    have e3 := hz2.length
    simp at e1 e3
    omega
  obtain ⟨p1, p2⟩ := push_cells r cs c' e h2
  refine ⟨.slice (some ⟨w.heap.size, 0, none⟩) len len, w.alloc (.cells c' e), ?_, _, _, p1, rel_sl_new (.inr rfl) (upd_same _ _ _) rfl (Nat.le_refl _) (Nat.le_refl _) (by simp [hlen]), p2⟩
  have hlim' : ¬ (16777216 < len * j.size) := by omega
  by_cases h0 : len * j.size = 0
  · have := hz0 h0
    subst this
    simp only [h0] at h1
    simp [Instr.buildSlice, hu, ok.siz w hj, h0, newRow] at h1 ⊢
    simp [h1]
  · have := hz1 h0
    subst this
    simp [Instr.buildSlice, hu, ok.siz w hj, hlim', h0, ok.zer w hj, h1, newRow]
end
end
end Go.Proofs.YtfaemheimmndgaaGreatDoor.XI
