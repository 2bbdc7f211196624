/- LedgerNil returns true of every readable step, in every world that holds the two listed tables, and changes nothing that was there: the row. No condition beside the row's own (the listed tables). -/
import Derived.Test.YtfaemheimmndgaaGreatDoorLZ
import Derived.Test.YtfaemheimmndgaaGreatDoorLIG
import Derived.WalkKit
import Derived.ProofKit
import Derived.OpenShut
import Derived.Deep.DeepHandedRow
import Derived.Lib.LaidTab
set_option linter.unusedVariables false
namespace Go.Proofs.YtfaemheimmndgaaGreatDoor.ledgerNil
open Go.ChangeShapes Go.WideShapes Go.ChangeAt Go.RowKit
open Go.Proofs.YtfaemheimmndgaaGreatDoor.XI

theorem plainS : plainT Tryz.prog [48, 3, 9, 45, 46, 336, 280, 4, 401] = true := by kernel_rfl

section
variable {σ : Nat → Go.Proofs.YtfaemheimmndgaaGreatDoor.XI.Loc} {A : Nat → Prop} {M : Mem}
theorem one_i {k : IntKind} {n : Int} {v : Value} (h : RelV σ A M (.i k n) v) : v = .int k n := by cases h; rfl
theorem one_s {l : List Nat} {v : Value} (h : RelV σ A M (.s l) v) : v.oneCell' = true ∧ v.cells = #[v] := by cases h; exact ⟨rfl, rfl⟩
theorem one_ro {cs : List AV} {n z : Nat} {v : Value} (h : RelV σ A M (.ro cs n z) v) : v.oneCell' = true ∧ v.cells = #[v] := by cases h <;> exact ⟨rfl, rfl⟩
end

theorem len8 {α : Type} {l : List α} (h : l.length = 8) : ∃ a b c d e f g i, l = [a, b, c, d, e, f, g, i] := by
  match l, h with
  | [a, b, c, d, e, f, g, i], _ => exact ⟨a, b, c, d, e, f, g, i, rfl⟩
/-- A step is a row of eight values of one cell; the fifth and the sixth are numbers. -/
theorem step_of {W : World} {a : AV} {v : Value} (h : ShpA Tryz.prog 48 a) (hr : RelV (fun _ => default) (fun _ => False) ⟨fun a => W.cell? a, fun _ => none⟩ a v) :
    ∃ (x0 x1 x2 x3 x6 x7 : Value) (n m : Int), v = .agg #[x0, x1, x2, x3, .int .i64 n, .int .i64 m, x6, x7] ∧ (∀ x ∈ [x0, x1, x2, x3, x6, x7], x.oneCell' = true ∧ x.cells = #[x]) := by
  obtain ⟨avs, hs, ha⟩ := h
  obtain ⟨css, rfl, hl, hc⟩ := hs.struct_inv Tryz.underlying48
  have hl : css.length = 8 := hl
  obtain ⟨c0, c1, c2, c3, c4, c5, c6, c7, rfl⟩ := len8 hl
  obtain ⟨n0, rfl, _⟩ := Shp.int_inv Tryz.underlying3 (hc 0 _ _ rfl rfl)
  obtain ⟨n1, rfl, _⟩ := Shp.int_inv Tryz.underlying3 (hc 1 _ _ rfl rfl)
  obtain ⟨s2, rfl, _⟩ := Shp.str_inv Tryz.underlying9 (hc 2 _ _ rfl rfl)
  obtain ⟨s3, rfl, _⟩ := Shp.str_inv Tryz.underlying9 (hc 3 _ _ rfl rfl)
  obtain ⟨n4, rfl, _⟩ := Shp.int_inv Tryz.underlying3 (hc 4 _ _ rfl rfl)
  obtain ⟨n5, rfl, _⟩ := Shp.int_inv Tryz.underlying3 (hc 5 _ _ rfl rfl)
  obtain ⟨e6, rfl, _⟩ := Shp.sl_inv Tryz.underlying45 (hc 6 _ _ rfl rfl)
  obtain ⟨e7, rfl, _⟩ := Shp.sl_inv Tryz.underlying46 (hc 7 _ _ rfl rfl)
  rw [ha, argOf_struct Tryz.underlying48] at hr
  cases hr with | agg _ vs hr =>
  obtain ⟨l⟩ := vs
  change RelL _ _ _ [_, _, _, _, _, _, _, _] l at hr
  cases hr with | cons _ v0 _ l r0 hr =>
  cases hr with | cons _ v1 _ l r1 hr =>
  cases hr with | cons _ v2 _ l r2 hr =>
  cases hr with | cons _ v3 _ l r3 hr =>
  cases hr with | cons _ v4 _ l r4 hr =>
  cases hr with | cons _ v5 _ l r5 hr =>
  cases hr with | cons _ v6 _ l r6 hr =>
  cases hr with | cons _ v7 _ l r7 hr =>
  cases hr
  obtain rfl := one_i r0
  obtain rfl := one_i r1
  obtain rfl := one_i r4
  obtain rfl := one_i r5
  refine ⟨_, _, v2, v3, v6, v7, n4, n5, rfl, fun x hx => ?_⟩
  simp only [List.mem_cons, List.not_mem_nil, or_false] at hx
  rcases hx with rfl | rfl | rfl | rfl | rfl | rfl
  · exact ⟨rfl, rfl⟩
  · exact ⟨rfl, rfl⟩
  · exact one_s r2
  · exact one_s r3
  · exact one_ro r6
  · exact one_ro r7

/-- The memory that names a step's fields and its two sizes. -/
noncomputable def memOf (x0 x1 x2 x3 x6 x7 : Value) (n m : Int) : Mem := ⟨fun _ => none, fun i => [x0, x1, x2, x3, .int .i64 n, .int .i64 m, x6, x7, .bool true, .bool true, .bool true, .bool true, .bool true, .bool true, .int .u64 (sizeI n), .int .u64 (sizeI m)][i]?⟩

theorem walk (W : World) (x0 x1 x2 x3 x6 x7 : Value) (n m : Int) (h : ∀ x ∈ [x0, x1, x2, x3, x6, x7], x.oneCell' = true ∧ x.cells = #[x]) :
    Calls Tryz.prog 7 #[.agg #[x0, x1, x2, x3, .int .i64 n, .int .i64 m, x6, x7]] W fun e W' => e = .returned (.bool true) ∧ W'.os = W.os ∧ W'.tape = W.tape ∧ W'.output = W.output ∧ W.heap.size ≤ W'.heap.size ∧ ∀ k, k < W.heap.size → W'.heap[k]? = W.heap[k]? := by
  refine runM_ok (M := memOf x0 x1 x2 x3 x6 x7 n m) E_ok mixed (orElse_ok livesC_ok (sizeC_ok ⟨n, m, rfl, rfl, rfl, rfl⟩)) nil_run W (fun a v e => by cases e) (.singleton (.agg _ _ ?_))
  refine .cons _ _ _ _ (.tok 0 _ rfl (h _ (by simp)).1 (h _ (by simp)).2) (.cons _ _ _ _ (.tok 1 _ rfl (h _ (by simp)).1 (h _ (by simp)).2) (.cons _ _ _ _ (.tok 2 _ rfl (h _ (by simp)).1 (h _ (by simp)).2) (.cons _ _ _ _ (.tok 3 _ rfl (h _ (by simp)).1 (h _ (by simp)).2) (.cons _ _ _ _ (.tok 4 _ rfl rfl rfl) (.cons _ _ _ _ (.tok 5 _ rfl rfl rfl) (.cons _ _ _ _ (.tok 6 _ rfl (h _ (by simp)).1 (h _ (by simp)).2) (.cons _ _ _ _ (.tok 7 _ rfl (h _ (by simp)).1 (h _ (by simp)).2) .nil)))))))

theorem inS : Tryz.f7.params.toList.all (inT [48, 3, 9, 45, 46, 336, 280, 4, 401] ·) = true := by kernel_rfl
theorem own : ownKnob Tryz.prog.godebug = none := by kernel_rfl

set_option maxRecDepth 100000 in
/-- WHAT THE RUN GIVES, IN EVERY WORLD: the same for both forms. -/
theorem contract (H : Type) (enc : TypeId × Value → H) (W : World) (base : Nat) (args : Array Value) (ds gs : List (DataW H)) (before : List MemPlace)
    (hval : ∀ (j : Nat) t v, Tryz.f7.params[j]? = some t → args[j]? = some v → Value.okWide Tryz.prog W .any base t v)
    (hW : DataW.Whole enc Tryz.prog Tryz.f7.params.toList Rows.ledgerNilSpec.vars false W args.toList ds gs before) :
    Calls Tryz.prog 7 args W fun e W' => ∃ v, e = .returned v ∧ Rows.ledgerNilSpec.post enc Tryz.prog Tryz.f7 false true false false W args v W' := by
  obtain ⟨xs, hs, hr, hl, rfl⟩ := whole_rel (P := Tryz.prog) (f := Tryz.f7) (vars := Rows.ledgerNilSpec.vars) (r := .any) (b0 := base) (w0 := W) (W := W) (args := args) (σ := fun _ => default) (A := fun _ => False) (val := fun _ => none) plainS inS hval hW rfl
  rw [Tryz.params7] at hs hl
  obtain ⟨d, rfl⟩ : ∃ d, ds = [d] := by
    have hl : ds.length = 1 := hl
    match ds, hl with
    | [d], _ => exact ⟨d, rfl⟩
  cases hs with | cons ha hs =>
  cases hs
  generalize hav : args.toList = l at hr
  cases hr with | cons _ v _ l hr r0 =>
  cases r0
  obtain rfl : args = #[v] := by cases args; simp_all
  obtain ⟨x0, x1, x2, x3, x6, x7, n, m, rfl, hx⟩ := step_of ha hr
  refine (walk W x0 x1 x2 x3 x6 x7 n m hx).mono fun e W' ⟨he, h1, h4, h2, h5, h3⟩ => ?_
  subst he
  refine ⟨_, rfl, law_post hW rfl ⟨rfl, rfl, rfl⟩ resBool Tryz.underlying4 k1 paramsRead ⟨h1, h4, h2, h5, h3⟩⟩
/-- A WORLD FOR THE WITNESS: the settled one, the two listed tables holding what the text lays. -/
def acceptNums : List Int := [128, 191, 160, 191, 128, 159, 144, 191, 128, 143, 0, 0, 0, 0, 0, 0, 0, 0, 0, 0, 0, 0, 0, 0, 0, 0, 0, 0, 0, 0, 0, 0]
def layAt (ns : List Int) : Obj → Obj
  | .cells _ t frozen => .cells (ns.map fun n => Value.int .u8 n).toArray t frozen
  | o => o
def zeroStep : Array Value := #[.agg #[.int .i64 0, .int .i64 0, .string ⟨#[]⟩, .string ⟨#[]⟩, .int .i64 0, .int .i64 0, .slice none 0 0, .slice none 0 0]]
def zeroData (H : Type) : List (DataW H) := [.agg [.lit (.int .i64 0), .lit (.int .i64 0), .lit (.string []), .lit (.string []), .lit (.int .i64 0), .lit (.int .i64 0), .nil, .nil]]
noncomputable def laidWorld (os : Os) : World :=
  { World.holding Tryz.prog os ⟨#[], #[], []⟩ with heap := ((World.holding Tryz.prog os ⟨#[], #[], []⟩).heap.modify 1 (layAt acceptNums)).modify 0 (layAt (Go.Pinned.utf8FirstZ.map Int.ofNat)) }
set_option maxRecDepth 100000 in
theorem laid_met (os : Os) : laidMet Tryz.prog Rows.ledgerNilRow.laid ((laidWorld os).forCall (fun _ _ => 0) ⟨#[], zeroStep, []⟩).memory :=
  laidMet_of_run' 8 (by kernel_rfl) (by kernel_rfl)
theorem reads (os : Os) {H : Type} (enc : TypeId × Value → H) : ∃ places, DataW.whole enc Tryz.prog ((laidWorld os).forCall (fun _ _ => 0) ⟨#[], zeroStep, []⟩).memory Tryz.f7.params.toList Rows.ledgerNilSpec.vars false zeroStep.toList 8 = some (zeroData H, [], places) :=
  ⟨[], by kernel_rfl⟩

set_option maxRecDepth 100000 in
theorem lifted (os : Os) (started : os.Started) (H : Type) (enc : TypeId × Value → H) (F : Stop.Interp) :
    ReturnsInHanded {} Tryz.checked os 7 .any ((OpenSpec.ofChange Rows.ledgerNilSpec).preRow enc Tryz.prog Tryz.f7 Rows.ledgerNilRow.domain false Rows.ledgerNilRow.laid) (((OpenSpec.ofChange Rows.ledgerNilSpec).at F).post enc Tryz.prog Tryz.f7 false true false false) := by
  obtain ⟨places, hx⟩ := reads os enc
  refine returnsInHanded_of_row (C := Tryz.checked) (s := OpenSpec.ofChange Rows.ledgerNilSpec) own started (by kernel_rfl) Tryz.func7
    (witness_row_at (enc := enc) (C := Tryz.checked) false (laidWorld os) zeroStep rfl (by kernel_rfl) (by kernel_rfl) (by kernel_rfl)
      (OpenSpec.preRow_of_cond 8 hx (by kernel_rfl) (fun k hk => by cases hk) (by kernel_rfl) (laid_met os))) ?_
  intro W base args ds gs before hval hW _ _ _ hL _ _
  exact contract H enc W base args ds gs before hval hW

set_option maxRecDepth 100000 in
theorem said : Rows.LedgerNilSaid :=
  OpenClaim.holds_of_cond 7 Tryz.f7 rfl rfl rfl rfl rfl rfl rfl ⟨rfl, rfl, rfl, rfl, rfl⟩ rfl rfl rfl rfl rfl (by kernel_rfl) Tryz.func7 closed
    (of_decide_eq_true (by kernel_rfl)) (by unfold Func.isWrapper; first | (rw [if_pos (by decide +kernel)]; kernel_rfl) | (rw [if_neg (by decide +kernel)]; exact ⟨rfl, rfl⟩))
    (fun os started H enc _ F => by rw [OpenClaim.pre_eq_preRow]; exact lifted os started H enc F)

end Go.Proofs.YtfaemheimmndgaaGreatDoor.ledgerNil
