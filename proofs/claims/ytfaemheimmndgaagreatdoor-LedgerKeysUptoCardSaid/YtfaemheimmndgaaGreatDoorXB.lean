/- Frames, types, loads and stores. Part of a verified reckoner of runs: no condition. -/
import Derived.Test.YtfaemheimmndgaaGreatDoorXA
import Derived.Laws.Entries
set_option linter.unusedVariables false
set_option linter.unusedSimpArgs false
namespace Go.Proofs.YtfaemheimmndgaaGreatDoor.XI
noncomputable section

/-! ### 4. Frames and types -/
abbrev Fr := T AV
/-- What a slot holds. -/
def slotOf (o : Option AV) : AV := Option.rec (motive := fun _ => AV) AV.undef (fun x => x) o
theorem slotOf_eq (o : Option AV) : slotOf o = o.getD AV.undef := by cases o <;> rfl
structure RelA (σ : Nat → Loc) (A : Nat → Prop) (M : Mem) (fr : Fr) (a : Act) : Prop where
  tmps : ∀ t v, a.tmps[t]? = some v → RelV σ A M (slotOf (fr.get t)) v
  out : ∀ t, a.tmps.size ≤ t → fr.get t = none

def ofAtom : Value → AV
  | .bool b => .b b
  | .int k n => .i k n
  | .float k n => .f k n
  | .string s => .s (nb s)
  | .pointer none => .nilp
  | .slice none n c => if n = 0 ∧ c = 0 then .nils else .any
  | .map none => .nilm
  | .nilFunc => .nilf
  | .nilIface => .nili
  | _ => .any
def ofV : Value → AV
  | .agg cs => .agg (cs.toList.map ofAtom)
  | .tuple vs => .tup (vs.toList.map ofAtom)
  | v => ofAtom v
def ev (fr : Fr) (x : Operand) : AV := match x with
  | .tmp t => slotOf (fr.get t)
  | .const v => ofV v
  | .global _ => .any
  | .func f => .fn (.func f) [] []

section
variable {σ : Nat → Loc} {A : Nat → Prop} {M : Mem} {fr : Fr} {a : Act}

theorem rel_ofAtom (v : Value) : RelV σ A M (ofAtom v) v := by
  cases v <;> simp only [ofAtom] <;> try exact .any _
  case bool b => exact .b b
  case int k n => exact .i k n
  case float k n => exact .f k n
  case string s => exact .s _ _ rfl
  case pointer a => cases a <;> simp only [ofAtom] <;> first | exact .nilp | exact .any _
  case slice a n c =>
    cases a <;> simp only [ofAtom] <;> try exact .any _
    split
    · rename_i h; rw [h.1, h.2]; exact .nils
    · exact .any _
  case map a => cases a <;> simp only [ofAtom] <;> first | exact .nilm | exact .any _
  case nilFunc => exact .nilf
  case nilIface => exact .nili

theorem rel_ofAtoms (vs : List Value) : RelL σ A M (vs.map ofAtom) vs := by
  induction vs with
  | nil => exact .nil
  | cons v vs ih => exact .cons _ _ _ _ (rel_ofAtom v) ih

theorem rel_ofV (v : Value) : RelV σ A M (ofV v) v := by
  cases v <;> simp only [ofV] <;> first
    | exact rel_ofAtom _
    | exact .agg _ _ (rel_ofAtoms _)
    | exact .tup _ _ (rel_ofAtoms _)

theorem RelA.ev (r : RelA σ A M fr a) (x : Operand) : RelV σ A M (ev fr x) (a.eval x) := by
  cases x with
  | tmp t =>
    simp only [XI.ev, Act.eval]
    cases h : a.tmps[t]? with
    | some v =>
      simp only [Array.getD_eq_getD_getElem?, h, Option.getD_some]
      exact r.tmps t v h
    | none =>
      have hn := Array.getElem?_eq_none_iff.1 h
      simp only [Array.getD_eq_getD_getElem?, h, Option.getD_none, r.out t hn]
      exact .undef
  | const v => exact rel_ofV v
  | global g => exact .any _
  | func f => exact .fn _ _ _ _ _ .nil .nil

def putF (fr : Fr) (d : Option Tmp) (x : AV) : Fr := match d with | some d => fr.put d (some x) | none => fr
theorem RelA.put (r : RelA σ A M fr a) {x : AV} {v : Value} (hx : RelV σ A M x v) {d : Option Tmp} (hd : ∀ t, d = some t → t < a.tmps.size) : RelA σ A M (putF fr d x) (a.put d v) := by
  cases d with
  | none => exact r
  | some d =>
    have hd := hd d rfl
    refine ⟨fun t u hu => ?_, fun t ht => ?_⟩
    · simp only [putF, T.get_put]
      simp only [Act.put] at hu
      by_cases e : t = d
      · subst e
        simp [hd] at hu
        subst hu
        rw [if_pos rfl]
        exact hx
      · rw [if_neg e]
        rw [Array.getElem?_setIfInBounds_ne (fun h => e h.symm)] at hu
        exact r.tmps t u hu
    · simp only [Act.put, Array.size_setIfInBounds] at ht
      simp only [putF, T.get_put]
      rw [if_neg (show ¬ t = d from fun e => by subst e; exact absurd hd (Nat.not_lt.2 ht))]
      exact r.out t ht

theorem RelA.map {ops : Array Operand} (r : RelA σ A M fr a) : RelL σ A M (mp (XI.ev fr) ops.toList) (ops.map a.eval).toList := by
  rw [Array.toList_map, mp_eq]
  induction ops.toList with
  | nil => exact .nil
  | cons x xs ih => exact .cons _ _ _ _ (r.ev x) ih
end

/-- What is told of a type. -/
structure TI where
  desc : TypeDesc
  size : Nat
  bytes : Nat
  zero : Value
  /-- '==' of such structs or arrays goes by their fields alone. -/
  eqOk : Bool
  /-- Where a struct's fields lie, and how many cells each has. -/
  places : List (Nat × Nat)
  deriving Inhabited
def TI.zv (i : TI) : AV := ofV i.zero

def TI.isAgg (i : TI) : Bool := match i.desc with | .struct _ | .array .. => true | _ => false

/-- The program, and what the run is given besides: types; functions without a body; contracts. -/
structure Env where
  P : Program
  ty : TypeId → Option TI
  fn : FuncId → Option Func
  ext : FuncId → List AV → Option AV
  /-- A type's method that takes just what is held. -/
  meth : TypeId → String → Option FuncId

structure Env.Ok (E : Env) : Prop where
  fn : ∀ f F, E.fn f = some F → E.P.funcs[f]? = some F ∧ F.body.isSome = true ∧ F.name ≠ "runtime.NumGoroutine"
  ext : ∀ f args x, E.ext f args = some x → ∀ (σ : Nat → Loc) (A : Nat → Prop) (M : Mem) (w : World) (cargs : Array Value), RelL σ A M args cargs.toList → ∃ v, (callFunc f cargs).run E.P w = .ok (.value v) w ∧ RelV σ A M x v
  meth : ∀ t name f, E.meth t name = some f → ∀ (v : Value) (w : World), (method (E.P.types.size + Made.depth) t v name).run E.P w = .ok (f, v) w
  ty : ∀ t i, E.ty t = some i → E.P.underlying t = some i.desc ∧ ∃ inf, E.P.info? t = some inf ∧ inf.size = i.size ∧ inf.bytes = i.bytes ∧ inf.zero = some i.zero
  eqOk : ∀ t i, E.ty t = some i → i.eqOk = true → E.P.stoodInHeld t = false ∧ E.P.eqGuardType E.P.depth t = false
  zv : ∀ t i, E.ty t = some i → i.zv ≠ .any
  zlen : ∀ t i, E.ty t = some i → i.zero.cells.size = i.size
  places : ∀ t i fs, E.ty t = some i → i.desc = .struct fs → ∀ w, (fs.mapM fun f => do pure (f.offset, ← sizeOf f.type) : Sem (Array (Nat × Nat))).run E.P w = .ok i.places.toArray w

section
variable {E : Env} (ok : E.Ok) {t : TypeId} {i : TI} (w : World)
include ok
theorem Env.Ok.und (h : E.ty t = some i) : (underlying t).run E.P w = .ok i.desc w := run_underlying (ok.ty t i h).1 w
theorem Env.Ok.siz (h : E.ty t = some i) : (sizeOf t).run E.P w = .ok i.size w := by
  obtain ⟨_, inf, h1, h2, _⟩ := ok.ty t i h
  simp [sizeOf, typeInfo, h1, h2]
theorem Env.Ok.zer (h : E.ty t = some i) : (zeroValue t).run E.P w = .ok i.zero w := by
  obtain ⟨_, inf, h1, h2, h3, h4⟩ := ok.ty t i h
  simp [zeroValue, typeInfo, h1, h4]
theorem Env.Ok.byt (h : E.ty t = some i) : ∃ inf, (typeInfo t).run E.P w = .ok inf w ∧ inf.bytes = i.bytes ∧ inf.size = i.size := by
  obtain ⟨_, inf, h1, h2, h3, h4⟩ := ok.ty t i h
  exact ⟨inf, by simp [typeInfo, h1], h3, h2⟩
theorem Env.Ok.agg (h : E.ty t = some i) : (isAgg t).run E.P w = .ok i.isAgg w := by
  obtain ⟨h1, _⟩ := ok.ty t i h
  unfold isAgg TI.isAgg
  simp only [Sem.run_bind, run_underlying h1, Result.andThen_ok]
  cases i.desc <;> rfl
end

/-! ### 5. Memory -/
section
variable {E : Env} {σ : Nat → Loc} {A : Nat → Prop} {M : Mem} {w : World} {h : H}

theorem add_at (l o : Nat) (j : Nat) : (⟨l, o, none⟩ : Addr).add j = ⟨l, o + j, none⟩ := by
  unfold Addr.add
  split <;> simp_all

theorem cell_blk {k : Nat} {c : Array Value} {e : TypeId} {fr : Nat × Nat} (hg : w.heap[k]? = some (.cells c e fr)) (j : Nat) : w.cell? ⟨k, j, none⟩ = c[j]? := by
  simp [World.cell?, hg]
theorem frozen_blk {k : Nat} {c : Array Value} {e : TypeId} {fr : Nat × Nat} (hg : w.heap[k]? = some (.cells c e fr)) (j : Nat) : w.frozen? ⟨k, j, none⟩ = (decide (fr.1 ≤ j) && decide (j < fr.2)) := by
  simp [World.frozen?, hg]

theorem cell_of (r : RelH σ A M w h) {b : Nat} {cs : List AV} (hb : h.get b = some (.cells cs)) {j : Nat} {x : AV} (hx : cs[j]? = some x) :
    ∃ v, w.cell? ⟨(σ b).blk, (σ b).off + j, none⟩ = some v ∧ RelV σ A M x v := by
  obtain ⟨c, e, fr, h1, _, _, h4⟩ := r.blk b _ hb
  obtain ⟨v, hv, hr⟩ := h4 j x hx
  exact ⟨v, by rw [cell_blk h1]; exact hv, hr⟩

/-- Some cells in a row. -/
theorem cells_of (r : RelH σ A M w h) {b : Nat} {cs : List AV} (hb : h.get b = some (.cells cs)) (o n : Nat) (hn : o + n ≤ cs.length) :
    ∃ vs : List Value, vs.length = n ∧ RelL σ A M ((cs.drop o).take n) vs ∧ ∀ j v, vs[j]? = some v → w.cell? ((⟨(σ b).blk, (σ b).off + o, none⟩ : Addr).add j) = some v := by
  induction n with
  | zero => exact ⟨[], rfl, by simpa using RelL.nil, fun j v hv => by simp at hv⟩
  | succ n ih =>
    obtain ⟨vs, h1, h2, h3⟩ := ih (by omega)
    have hx : cs[o + n]? = some (cs[o + n]'(by omega)) := List.getElem?_eq_getElem _
    obtain ⟨v, hv, hr⟩ := cell_of r hb hx
    refine ⟨vs ++ [v], by simp [h1], ?_, fun j u hu => ?_⟩
    · have : (cs.drop o).take (n + 1) = (cs.drop o).take n ++ [cs[o + n]'(by omega)] := by
        rw [List.take_succ_eq_append_getElem (by simp; omega)]
        simp
      rw [this]
      exact h2.append (.singleton hr)
    · rw [add_at]
      rcases Nat.lt_or_ge j n with hj | hj
      · rw [List.getElem?_append_left (by omega)] at hu
        have := h3 j u hu
        rwa [add_at] at this
      · have : j = n := by
          have := (List.getElem?_eq_some_iff.1 hu).1
          simp at this
          omega
        subst this
        rw [List.getElem?_append_right (by omega)] at hu
        simp [h1] at hu
        subst hu
        rw [Nat.add_assoc]
        exact hv

theorem loadCells_of (P : Program) (ad : Addr) (vs : List Value) (hc : ∀ j v, vs[j]? = some v → w.cell? (ad.add j) = some v) {n : Nat} (hn : vs.length = n) : (loadCells ad n).run P w = .ok vs.toArray w := by
  subst hn
  exact run_loadCells_list w ad vs hc

/-! Loads. -/
def aPart (i : TI) (cs : List AV) : Option AV :=
  cond i.isAgg (cond (Nat.ble i.size (ln cs)) (some (.agg (tk i.size cs))) none) (nt cs 0)

theorem loadVar_ok (ok : E.Ok) {t : TypeId} {i : TI} (ht : E.ty t = some i) {cs : List AV} {x : AV} (hx : aPart i cs = some x) {ad : Addr} {vs : List Value} (hr : RelL σ A M cs vs)
    (hc : ∀ j v, vs[j]? = some v → w.cell? (ad.add j) = some v) : ∃ v, (loadVar t ad).run E.P w = .ok v w ∧ RelV σ A M x v := by
  unfold aPart at hx
  simp only [tk_eq, dp_eq, ap_eq, ln_eq, nt_eq, mp_eq, al_eq, st_eq, rpl_eq, eqN_eq, iLe_eq, iLt_eq, iEq_beq, bNot_eq, iAdd_eq, iSub_eq, wr_eq, cond_ble, cond_eq_if, Nat.ble_eq] at hx
  unfold loadVar
  simp only [Sem.run_bind, ok.agg w ht, Result.andThen_ok]
  cases ha : i.isAgg
  · simp only [ha, Bool.false_eq_true, if_false] at hx ⊢
    cases cs with
    | nil => simp at hx
    | cons y ys =>
      cases hr with
      | cons _ v _ us h1 t1 =>
        simp at hx
        subst hx
        have h0 := hc 0 v rfl
        have e : ad.add 0 = ad := by simp [Addr.add]
        rw [e] at h0
        exact ⟨v, by simp [run_load, h0], h1⟩
  · simp only [ha, if_true] at hx ⊢
    split at hx
    · rename_i hsz
      cases hx
      refine ⟨.agg (vs.take i.size).toArray, ?_, .agg _ _ (by simpa using hr.take i.size)⟩
      rw [Sem.run_bind, ok.siz w ht, Result.andThen_ok, Sem.run_bind, loadCells_of E.P ad (vs.take i.size) (fun j v hv => hc j v ?_) (by have := hr.length; simp; omega)]
      · rfl
      · have : j < i.size := by
          have := (List.getElem?_eq_some_iff.1 hv).1
          simp at this
          omega
        rwa [List.getElem?_take_of_lt this] at hv
    · cases hx

/-- The cells from a place on. -/
def aCells (h : H) : AV → Option (List AV)
  | .p b o => match h.get b with
    | some (.cells cs) => cond (Nat.ble o (ln cs)) (some (dp o cs)) none
    | _ => none
  | .rp cs => some cs
  | _ => none

theorem aCells_ok (r : RelH σ A M w h) {x : AV} {cs : List AV} (hx : aCells h x = some cs) {v : Value} (hv : RelV σ A M x v) :
    ∃ ad vs, v = .pointer (some ad) ∧ RelL σ A M cs vs ∧ ∀ j u, vs[j]? = some u → w.cell? (ad.add j) = some u := by
  cases hv with
  | p b o hA a ha =>
    simp only [aCells, tk_eq, dp_eq, ap_eq, ln_eq, nt_eq, mp_eq, al_eq, st_eq, rpl_eq, eqN_eq, iLe_eq, iLt_eq, iEq_beq, bNot_eq, iAdd_eq, iSub_eq, wr_eq, cond_ble, cond_eq_if, Nat.ble_eq] at hx
    split at hx
    · rename_i c hb
      split at hx
      · rename_i ho
        cases hx
        obtain ⟨vs, h1, h2, h3⟩ := cells_of r hb o (c.length - o) (by omega)
        rw [List.take_of_length_le (by simp)] at h2
        exact ⟨a, vs, rfl, h2, by rw [ha]; exact h3⟩
      · cases hx
    · cases hx
  | rp cs' a vs hl hm =>
    simp only [aCells, Option.some.injEq] at hx
    subst hx
    exact ⟨a, vs, rfl, hl, fun j u hu => (r.stay _ _ (hm j u hu)).1⟩
  | _ => simp [aCells] at hx

def aLoad (E : Env) (h : H) (t : TypeId) (x : AV) : Option AV :=
  match E.ty t, aCells h x with
  | some i, some cs => aPart i cs
  | _, _ => none

theorem aLoad_ok (ok : E.Ok) (r : RelH σ A M w h) {t : TypeId} {x y : AV} (hx : aLoad E h t x = some y) {v : Value} (hv : RelV σ A M x v) :
    ∃ u, (Instr.loadAt t v).run E.P w = .ok u w ∧ RelV σ A M y u := by
  unfold aLoad at hx
  split at hx
  · rename_i i cs hi hc
    obtain ⟨ad, vs, rfl, h2, h3⟩ := aCells_ok r hc hv
    obtain ⟨u, hu, hr⟩ := loadVar_ok ok hi hx h2 h3
    exact ⟨u, by simp [Instr.loadAt, Instr.sureAddr, hu], hr⟩
  · cases hx

/-! Stores. -/
def putAt (c : Array Value) : Nat → List Value → Array Value
  | _, [] => c
  | k, v :: vs => putAt (c.setIfInBounds k v) (k + 1) vs
theorem size_putAt (c : Array Value) (k : Nat) (vs : List Value) : (putAt c k vs).size = c.size := by
  induction vs generalizing c k with
  | nil => rfl
  | cons v vs ih => simp [putAt, ih]
theorem get_putAt (vs : List Value) : ∀ (c : Array Value) (k : Nat), k + vs.length ≤ c.size → ∀ j, (putAt c k vs)[j]? = if k ≤ j ∧ j < k + vs.length then vs[j - k]? else c[j]? := by
  induction vs with
  | nil => intro c k _ j; simp [putAt]; intro h1 h2; omega
  | cons v vs ih =>
    intro c k hk j
    simp only [List.length_cons] at hk
    simp only [putAt, List.length_cons]
    rw [ih _ _ (by simp; omega)]
    by_cases h1 : k + 1 ≤ j ∧ j < k + 1 + vs.length
    · rw [if_pos h1, if_pos (by omega)]
      have : j - k = (j - (k + 1)) + 1 := by omega
      rw [this]; simp
    · rw [if_neg h1]
      by_cases h2 : j = k
      · subst h2
        rw [if_pos (by omega)]
        simp [show j < c.size by omega]
      · rw [if_neg (by omega), Array.getElem?_setIfInBounds_ne (fun e => h2 e.symm)]

theorem storeCells_ok (P : Program) {k : Nat} : ∀ (vs : List Value) (i : Nat) (w : World) (c : Array Value) (e : TypeId) (fr : Nat × Nat) (o : Nat), w.heap[k]? = some (.cells c e fr) → o + i + vs.length ≤ c.size →
    (∀ j, j < c.size → (decide (fr.1 ≤ j) && decide (j < fr.2)) = false) → (∀ v ∈ vs, v.oneCell' = true) →
    ∃ w', (storeCells ⟨k, o, none⟩ vs i).run P w = .ok () w' ∧ w'.os = w.os ∧ w'.tape = w.tape ∧ w'.output = w.output ∧ w'.heap.size = w.heap.size ∧ (∀ j, j ≠ k → w'.heap[j]? = w.heap[j]?) ∧
      w'.heap[k]? = some (.cells (putAt c (o + i) vs) e fr)
  | [], i, w, c, e, fr, o, hg, _, _, _ => ⟨w, rfl, rfl, rfl, rfl, rfl, fun _ _ => rfl, hg⟩
  | v :: vs, i, w, c, e, fr, o, hg, hl, hf, h1 => by
    simp only [List.length_cons] at hl
    have hlt : o + i < c.size := by omega
    have hcell : w.cell? ⟨k, o + i, none⟩ = some c[o + i] := by rw [cell_blk hg]; simp [hlt]
    have hfz : w.frozen? ⟨k, o + i, none⟩ = false := by rw [frozen_blk hg]; exact hf _ hlt
    have hk : k < w.heap.size := (Array.getElem?_eq_some_iff.1 hg).1
    have hg' : (w.setCell ⟨k, o + i, none⟩ v).heap[k]? = some (.cells (c.setIfInBounds (o + i) v) e fr) := by
      simp [World.setCell, Array.getElem?_modify, hg]
    obtain ⟨w', r1, r2, r3, r4, r5, r6, r7⟩ := storeCells_ok P vs (i + 1) (w.setCell ⟨k, o + i, none⟩ v) (c.setIfInBounds (o + i) v) e fr o hg' (by simp; omega) (by simpa using hf) (fun u hu => h1 u (by simp [hu]))
    refine ⟨w', ?_, r2, r3, r4, by rw [r5]; simp, fun j hj => ?_, by rw [r7]; rfl⟩
    · simp only [storeCells, Sem.run_bind, add_at]
      rw [run_store P w ⟨k, o + i, none⟩ v .plain (h1 v (by simp))]
      simp only [hcell, hfz]
      exact r1
    · rw [r6 j hj]
      exact heap_setCell_other w _ j v hj

/-- Cells written over in a block. -/
def aPut (cs : List AV) (o : Nat) (xs : List AV) : List AV := ap (tk o cs) (ap xs (dp (ln xs) (dp o cs)))
theorem aPut_eq (cs : List AV) (o : Nat) (xs : List AV) : aPut cs o xs = cs.take o ++ xs ++ cs.drop (o + xs.length) := by
  unfold aPut
  simp only [tk_eq, dp_eq, ap_eq, ln_eq, nt_eq, mp_eq, al_eq, st_eq, rpl_eq, eqN_eq, iLe_eq, iLt_eq, iEq_beq, bNot_eq, iAdd_eq, iSub_eq, wr_eq, cond_ble, cond_eq_if, Nat.ble_eq, List.append_assoc, List.drop_drop]
theorem aPut_get {cs : List AV} {o : Nat} {xs : List AV} (ho : o + xs.length ≤ cs.length) (j : Nat) : (aPut cs o xs)[j]? = if o ≤ j ∧ j < o + xs.length then xs[j - o]? else cs[j]? := by
  rw [aPut_eq, List.append_assoc]
  rcases Nat.lt_or_ge j o with h1 | h1
  · rw [List.getElem?_append_left (by simp; omega), if_neg (by omega), List.getElem?_take_of_lt h1]
  · rw [List.getElem?_append_right (by simp; omega)]
    have e : j - (cs.take o).length = j - o := by simp; omega
    rw [e]
    rcases Nat.lt_or_ge (j - o) xs.length with h2 | h2
    · rw [List.getElem?_append_left h2, if_pos (by omega)]
    · rw [List.getElem?_append_right h2, if_neg (by omega), List.getElem?_drop]
      congr 1
      omega

theorem RelP.put {cs : List AV} {c : Array Value} {off : Nat} (r : RelP σ A M cs c off) {xs : List AV} {vs : List Value} (hx : RelL σ A M xs vs) {o : Nat} (ho : o + xs.length ≤ cs.length) (hc : off + o + vs.length ≤ c.size) :
    RelP σ A M (aPut cs o xs) (putAt c (off + o) vs) off := by
  intro j x hj
  rw [aPut_get ho] at hj
  rw [get_putAt _ _ _ hc]
  have hl := hx.length
  split at hj
  · rename_i h1
    obtain ⟨v, hv, hr⟩ := hx.get hj
    rw [if_pos (by omega)]
    have : off + j - (off + o) = j - o := by omega
    exact ⟨v, by rw [this]; exact hv, hr⟩
  · rename_i h1
    obtain ⟨v, hv, hr⟩ := r j x hj
    rw [if_neg (by omega)]
    exact ⟨v, hv, hr⟩

theorem RelP.size {cs : List AV} {c : Array Value} {off : Nat} (r : RelP σ A M cs c off) (h0 : 0 < cs.length) : off + cs.length ≤ c.size := by
  obtain ⟨v, hv, _⟩ := r (cs.length - 1) _ (List.getElem?_eq_getElem (by omega))
  have := (Array.getElem?_eq_some_iff.1 hv).1
  omega

theorem RelL.ones {xs : List AV} {vs : List Value} (h : RelL σ A M xs vs) (h1 : xs.all AV.one = true) : ∀ v ∈ vs, v.oneCell' = true := by
  intro v hv
  obtain ⟨j, hj⟩ := List.mem_iff_getElem?.1 hv
  obtain ⟨x, hx, hr⟩ := h.get' hj
  exact hr.oneCell (List.all_eq_true.1 h1 x (List.mem_of_getElem? hx))

/-- Store cells into block b from o on. -/
def hStore (h : H) (b o : Nat) (xs : List AV) : Option H :=
  match h.get b with
  | some (.cells cs) => cond (and (Nat.ble (o + ln xs) (ln cs)) (al AV.one xs)) (h.write b (.cells (aPut cs o xs))) none
  | _ => none

theorem hStore_ok (P : Program) (r : RelH σ A M w h) {b o : Nat} {xs : List AV} {h' : H} (hs : hStore h b o xs = some h') {vs : List Value} (hx : RelL σ A M xs vs) :
    ∃ w', (storeCells ⟨(σ b).blk, (σ b).off + o, none⟩ vs 0).run P w = .ok () w' ∧ Step σ A w h σ A w' h' ∧ RelH σ A M w' h' := by
  unfold hStore at hs
  simp only [tk_eq, dp_eq, ap_eq, ln_eq, nt_eq, mp_eq, al_eq, st_eq, rpl_eq, eqN_eq, iLe_eq, iLt_eq, iEq_beq, bNot_eq, iAdd_eq, iSub_eq, wr_eq, cond_eq_if, ble_dec] at hs
  split at hs
  · rename_i cs hb
    split at hs
    · rename_i hc
      simp only [Bool.and_eq_true, decide_eq_true_eq] at hc
      obtain ⟨c, e, fr, g1, g2, g3, g4⟩ := r.blk b _ hb
      have hl := hx.length
      by_cases h0 : vs.length = 0
      · have : vs = [] := List.eq_nil_of_length_eq_zero h0
        subst this
        have hxs : xs = [] := List.eq_nil_of_length_eq_zero (by rw [hl]; rfl)
        subst hxs
        refine ⟨w, rfl, ?_⟩
        refine write_ok r hb rfl hs rfl rfl rfl rfl (fun _ _ => rfl) ⟨c, e, fr, g1, g2, g3, ?_⟩
        have : aPut cs o [] = cs := by simp [aPut_eq]
        rw [this]; exact g4
      · have hsz : (σ b).off + o + vs.length ≤ c.size := by
          have := g4.size (by omega)
          omega
        obtain ⟨w', r1, r2, r3, r4, r5, r6, r7⟩ := storeCells_ok P vs 0 w c e fr ((σ b).off + o) g1 (by omega) g3 (hx.ones hc.2)
        refine ⟨w', r1, ?_⟩
        refine write_ok r hb rfl hs r2 r3 r4 r5 r6 ⟨_, e, fr, r7, by rw [size_putAt]; exact g2, by rw [size_putAt]; exact g3, ?_⟩
        simpa using g4.put hx hc.1 hsz
    · cases hs
  · cases hs

def aStore (E : Env) (h : H) (t : TypeId) (x y : AV) : Option H :=
  match E.ty t, x with
  | some i, .p b o => cond (and (Nat.beq (ln y.cells) i.size) (al AV.one y.cells)) (hStore h b o y.cells) none
  | _, _ => none

theorem one_ne_any {y : AV} (h : y.cells.all AV.one = true) : y ≠ .any := by
  rintro rfl
  simp [AV.cells, AV.one] at h

theorem aStore_ok (ok : E.Ok) (r : RelH σ A M w h) {t : TypeId} {x y : AV} {h' : H} (hs : aStore E h t x y = some h') {v u : Value} (hv : RelV σ A M x v) (hu : RelV σ A M y u) :
    ∃ w', (Instr.storeAt t v u).run E.P w = .ok () w' ∧ Step σ A w h σ A w' h' ∧ RelH σ A M w' h' := by
  unfold aStore at hs
  simp only [tk_eq, dp_eq, ap_eq, ln_eq, nt_eq, mp_eq, al_eq, st_eq, rpl_eq, eqN_eq, iLe_eq, iLt_eq, iEq_beq, bNot_eq, iAdd_eq, iSub_eq, wr_eq, cond_ble, cond_eq_if, Nat.ble_eq, natBeq] at hs
  split at hs
  · rename_i i b o hi
    split at hs
    · rename_i hc
      simp only [Bool.and_eq_true, decide_eq_true_eq] at hc
      cases hv with
      | p _ _ hA ad ha =>
        subst ha
        have hcells := hu.cells (one_ne_any hc.2)
        obtain ⟨w', r1, r2, r3⟩ := hStore_ok E.P r hs hcells
        refine ⟨w', ?_, r2, r3⟩
        have hl := hcells.length
        simp only [Instr.storeAt, Instr.sureAddr, Sem.run_bind, Sem.run_pure, Result.andThen_ok, storeVar, ok.siz w hi]
        have : u.cells.size = i.size := by rw [← hc.1, hl]; simp
        rw [if_neg (by omega)]
        exact r1
    · cases hs
  · cases hs
end
end
end Go.Proofs.YtfaemheimmndgaaGreatDoor.XI
