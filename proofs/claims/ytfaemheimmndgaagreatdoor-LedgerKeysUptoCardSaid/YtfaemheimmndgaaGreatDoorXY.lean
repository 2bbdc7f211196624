/- What is told of a program's types and functions; closed runs. Part of a verified reckoner of runs: no condition. -/
import Derived.Test.YtfaemheimmndgaaGreatDoorXX
import Derived.Laws.Externs
set_option linter.unusedVariables false
set_option linter.unusedSimpArgs false
namespace Go.Proofs.YtfaemheimmndgaaGreatDoor.XI
noncomputable section

/-! ### 19. What is told of a program's types and functions -/
def sizeT (P : Program) (t : TypeId) : Option Nat := match P.info? t with | some i => some i.size | none => none
def placesT (P : Program) (fs : List Field) : Option (List (Nat × Nat)) := List.rec (motive := fun _ => Option (List (Nat × Nat))) (some [])
  (fun f _ ih => match sizeT P f.type, ih with | some n, some l => some ((f.offset, n) :: l) | _, _ => none) fs
def placesD (P : Program) (d : TypeDesc) : Option (List (Nat × Nat)) := match d with | .struct fs => placesT P fs.toList | _ => some []
def tyOf (P : Program) (t : TypeId) : Option TI := match P.underlying t, P.info? t with
  | some d, some i => match i.zero, placesD P d with
    | some z, some ps => cond (isAny (ofV z)) none (cond (Nat.beq (ln z.cells.toList) i.size)
        (some { desc := d, size := i.size, bytes := i.bytes, zero := z, eqOk := cond (P.stoodInHeld t) false (bNot (P.eqGuardType P.depth t)), places := ps }) none)
    | _, _ => none
  | _, _ => none
def fnOf (P : Program) (f : FuncId) : Option Func := match P.funcs[f]? with | some F => (match F.body with | some _ => some F | none => none) | none => none

theorem placesT_ok (P : Program) (w : World) : ∀ (fs : List Field) (ps : List (Nat × Nat)), placesT P fs = some ps → (fs.mapM fun f => do pure (f.offset, ← sizeOf f.type) : Sem (List (Nat × Nat))).run P w = .ok ps w
  | [], ps, h => by
    have h : some ([] : List (Nat × Nat)) = some ps := h
    cases h; rfl
  | f :: fs, ps, h => by
    have h : (match sizeT P f.type, placesT P fs with | some n, some l => some ((f.offset, n) :: l) | _, _ => none) = some ps := h
    split at h
    · rename_i n l h1 h2
      cases h
      unfold sizeT at h1
      split at h1
      · rename_i i hi
        cases h1
        have ih := placesT_ok P w fs l h2
        have hs : (sizeOf f.type).run P w = .ok i.size w := by simp [sizeOf, typeInfo, hi]
        simp only [List.mapM_cons, Sem.run_bind, hs, Result.andThen_ok, Sem.run_pure, ih]
      · cases h1
    · cases h

theorem tyOf_some {P : Program} {t : TypeId} {i : TI} (h : tyOf P t = some i) : ∃ inf, P.underlying t = some i.desc ∧ P.info? t = some inf ∧ inf.size = i.size ∧ inf.bytes = i.bytes ∧ inf.zero = some i.zero ∧
    placesD P i.desc = some i.places ∧ isAny (ofV i.zero) = false ∧ ln i.zero.cells.toList = i.size ∧ (i.eqOk = true → P.stoodInHeld t = false ∧ P.eqGuardType P.depth t = false) := by
  unfold tyOf at h
  split at h
  · rename_i d inf h1 h2
    split at h
    · rename_i z ps h3 h4
      rw [cond_eq_if] at h
      split at h
      · cases h
      · rename_i h5
        rw [cond_eq_if, natBeq] at h
        split at h
        · rename_i h6
          cases h
          refine ⟨inf, h1, h2, rfl, rfl, h3, h4, by simpa using h5, of_decide_eq_true h6, fun e => ?_⟩
          simp only at e
          rw [cond_eq_if] at e
          split at e
          · cases e
          · rename_i h7
            rw [bNot_eq] at e
            exact ⟨by simpa using h7, by simpa using e⟩
        · cases h
    · cases h
  · cases h

/-- A pointer's method with a pointer for its receiver. -/
def methOf (P : Program) (t : TypeId) (name : String) : Option FuncId := match P.info? t, P.underlying t with
  | some i, some (.pointer _) => (match i.methods.find? (fun m => m.name == name) with
    | some m => cond m.path.toList.isEmpty (match m.func with | some (f, true) => some f | _ => none) none
    | none => none)
  | _, _ => none

def envOf (P : Program) (ext : FuncId → List AV → Option AV) : Env := { P, ty := tyOf P, fn := fnOf P, ext, meth := methOf P }

/-- What is asked of the functions without a body. -/
def ExtOk (P : Program) (ext : FuncId → List AV → Option AV) : Prop := ∀ f args x, ext f args = some x → ∀ (σ : Nat → Loc) (A : Nat → Prop) (M : Mem) (w : World) (cargs : Array Value), RelL σ A M args cargs.toList →
  ∃ v, (callFunc f cargs).run P w = .ok (.value v) w ∧ RelV σ A M x v

theorem envOf_ok {P : Program} {ext : FuncId → List AV → Option AV} (hn : (P.funcs.toList.all fun F => F.name != "runtime.NumGoroutine") = true) (he : ExtOk P ext) : (envOf P ext).Ok where
  fn f F h := by
    have h : fnOf P f = some F := h
    unfold fnOf at h
    split at h
    · rename_i G hG
      split at h
      · rename_i c hc
        cases h
        refine ⟨hG, by simp [hc], ?_⟩
        have := List.all_eq_true.1 hn F (Array.mem_toList_iff.2 (Array.mem_of_getElem? hG))
        simpa using this
      · cases h
    · cases h
  ext := he
  meth t name f h v w := by
    have h : methOf P t name = some f := h
    unfold methOf at h
    split at h
    case h_2 => cases h
    rename_i i el hi hu
    split at h
    case h_2 => cases h
    rename_i m hm
    rw [cond_eq_if] at h
    split at h
    case isFalse => cases h
    rename_i hp
    split at h
    case h_2 => cases h
    rename_i g hf
    cases h
    have hp : m.path.toList = [] := by simpa using hp
    have hinfo : (typeInfo t).run P w = .ok i w := by simp [typeInfo, hi]
    have hund : (underlying t).run P w = .ok (.pointer el) w := by simp [underlying, hu]
    show (method (P.types.size + 99 + 1) t v name).run P w = _
    generalize P.types.size + 99 = q
    have hfind : (i.methods.find? fun x => x.name == name) = some m := hm
    rw [method]
    simp only [Sem.run_bind, hinfo, Result.andThen_ok, hfind, hp, follow, Sem.run_pure, hf, receiverAt, hund, Place.get]
  ty t i h := by
    obtain ⟨inf, h1, h2, h3, h4, h5, _⟩ := tyOf_some h
    exact ⟨h1, inf, h2, h3, h4, h5⟩
  eqOk t i h := by
    obtain ⟨inf, h1, h2, h3, h4, h5, h6, h7, h8, h9⟩ := tyOf_some h
    exact h9
  zv t i h := by
    obtain ⟨inf, h1, h2, h3, h4, h5, h6, h7, h8, h9⟩ := tyOf_some h
    exact not_any h7
  zlen t i h := by
    obtain ⟨inf, h1, h2, h3, h4, h5, h6, h7, h8, h9⟩ := tyOf_some h
    rw [ln_eq] at h8
    simpa using h8
  places t i fs h hd w := by
    obtain ⟨inf, h1, h2, h3, h4, h5, h6, h7, h8, h9⟩ := tyOf_some h
    rw [hd] at h6
    have h6 : placesT P fs.toList = some i.places := h6
    rw [Array.mapM_eq_mapM_toList]
    simp only [Sem.run_map]
    rw [show (envOf P ext).P = P from rfl, placesT_ok P w _ _ h6]
    rfl

/-! A closed run: nothing is told of the world it begins in. -/
theorem relH_empty (w : World) : RelH (fun _ => default) (fun _ => False) ⟨fun _ => none, fun _ => none⟩ w H.empty where
  bound b h := h.elim
  dom b x e := by
    have : H.empty.get b = none := T.get_e b
    rw [this] at e; cases e
  blk b x e := by
    have : H.empty.get b = none := T.get_e b
    rw [this] at e; cases e
  inj b x b' x' e := by
    have : H.empty.get b = none := T.get_e b
    rw [this] at e; cases e
  stay a v e := by cases e
  wb := Nat.le_refl _
  pos := by show 0 < 1; decide

/-- As much of the memory as one likes stays. -/
theorem relH_start (M : Mem) (w : World) (hM : ∀ a v, M.cell a = some v → w.cell? a = some v) : RelH (fun _ => default) (fun _ => False) M w H.empty where
  bound b h := h.elim
  dom b x e := by
    have : H.empty.get b = none := T.get_e b
    rw [this] at e; cases e
  blk b x e := by
    have : H.empty.get b = none := T.get_e b
    rw [this] at e; cases e
  inj b x b' x' e := by
    have : H.empty.get b = none := T.get_e b
    rw [this] at e; cases e
  stay a v e := ⟨hM a v e, fun b x e => by
    have : H.empty.get b = none := T.get_e b
    rw [this] at e; cases e⟩
  wb := Nat.le_refl _
  pos := by show 0 < 1; decide

def isT : Option (AV × H) → Bool | some (.b true, _) => true | _ => false

theorem closed_ok {E : Env} (ok : E.Ok) (hm : E.P.follows .mixedOrders = true) {N d f : Nat} (h : isT (callN E (drawA E) N d (.fn f) [] H.empty) = true) (W : World) :
    Calls E.P f #[] W fun e W' => e = .returned (.bool true) ∧ W'.os = W.os ∧ W'.tape = W.tape ∧ W'.output = W.output ∧ W.heap.size ≤ W'.heap.size ∧ ∀ k, k < W.heap.size → W'.heap[k]? = W.heap[k]? := by
  cases hx : callN E (drawA E) N d (.fn f) [] H.empty with
  | none => rw [hx] at h; cases h
  | some p =>
    obtain ⟨z, h'⟩ := p
    rw [hx] at h
    have hz : z = .b true := by
      unfold isT at h
      split at h
      · rename_i heq; cases heq; rfl
      · cases h
    subst hz
    refine (run_ok ok hm N d (.fn f) [] H.empty _ h' hx _ _ W #[] .nil (relH_empty W)).mono fun e W' he => ?_
    obtain ⟨v, σ', A', rfl, s, rv, _⟩ := he
    cases rv
    refine ⟨rfl, s.os, s.tape, s.output, s.size, fun k hk => s.keep k hk ?_⟩
    rintro ⟨b, x, e, _⟩
    have : H.empty.get b = none := T.get_e b
    rw [this] at e; cases e
end
end Go.Proofs.YtfaemheimmndgaaGreatDoor.XI
