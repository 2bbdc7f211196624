/- LedgerKeys returns true of every three strings of bulk at most 1048576, in every world that holds the two listed tables, and changes nothing that was there: the row. No condition beside the row's own (the bulk, the listed tables). -/
import Derived.Test.YtfaemheimmndgaaGreatDoorLCK
import Derived.Test.YtfaemheimmndgaaGreatDoorXP
import Derived.Test.YtfaemheimmndgaaGreatDoorLYG
import Derived.WalkKit
import Derived.ProofKit
import Derived.OpenShut
import Derived.Deep.DeepHandedRow
import Derived.Lib.LaidTab
set_option linter.unusedVariables false
namespace Go.Proofs.YtfaemheimmndgaaGreatDoor.ledgerKeys
open Go.ChangeShapes Go.WideShapes Go.ChangeAt Go.RowKit
open Go.Proofs.YtfaemheimmndgaaGreatDoor.XI

/-- A call that is told to answer true. -/
theorem runS {M : Mem} {f : FuncId} {args : List AV} {h1 : H} (hc : CallS E M (.fn f) args H.empty (.b true) h1) (W : World) (hM : ∀ a v, M.cell a = some v → W.cell? a = some v)
    {cargs : Array Value} (hl : RelL (fun _ => default) (fun _ => False) M args cargs.toList) :
    Calls Tryz.prog f cargs W fun e W' => e = .returned (.bool true) ∧ W'.os = W.os ∧ W'.tape = W.tape ∧ W'.output = W.output ∧ W.heap.size ≤ W'.heap.size ∧ ∀ k, k < W.heap.size → W'.heap[k]? = W.heap[k]? := by
  refine (hc _ _ W cargs hl (relH_start M W hM)).mono fun e W' he => ?_
  obtain ⟨v, σ', A', rfl, s, rv, _⟩ := he
  cases rv
  refine ⟨rfl, s.os, s.tape, s.output, s.size, fun k hk => s.keep k hk ?_⟩
  rintro ⟨b, x, e, _⟩
  have : H.empty.get b = none := T.get_e b
  rw [this] at e; cases e

theorem str_read {H : Type} {enc : TypeId × Value → H} {P : Program} {w : World} {base : Nat} {spare : Nat → Bool} {held : Bool} {t : TypeId} {s : ByteArray} {d : DataW H} {p : List MemPlace} (hu : P.underlying t = some .string) (h : DataW.Trod enc P w base spare held t (.string s) d p) : d = .lit (.string s.data.toList) := by
  obtain ⟨fuel, hf⟩ := h
  cases fuel with
  | zero => simp [DataW.trod] at hf
  | succ fuel =>
    have hf : DataW.trod enc P w base spare held (fuel + 1) t [.string s] = some (d, p) := hf
    simp only [DataW.trod, hu] at hf
    split at hf
    · cases hf; rfl
    · cases hf

theorem own : ownKnob Tryz.prog.godebug = none := by kernel_rfl
theorem nb_len (s : ByteArray) : (nb s).length = s.data.toList.length := by simp [nb]

set_option maxRecDepth 100000 in
/-- WHAT THE RUN GIVES, IN EVERY WORLD: the same for both forms. -/
theorem contract (H : Type) (enc : TypeId × Value → H) (W : World) (base : Nat) (args : Array Value) (ds gs : List (DataW H)) (before : List MemPlace)
    (hval : ∀ (j : Nat) t v, Tryz.f6.params[j]? = some t → args[j]? = some v → Value.okWide Tryz.prog W .any base t v)
    (hW : DataW.Whole enc Tryz.prog Tryz.f6.params.toList Rows.ledgerKeysSpec.vars false W args.toList ds gs before) (hk : Rows.uptoSmall H (ds ++ gs) = true) :
    Calls Tryz.prog 6 args W fun e W' => ∃ v, e = .returned v ∧ Rows.ledgerKeysSpec.post enc Tryz.prog Tryz.f6 false true false false W args v W' := by
  have hW' := hW
  obtain ⟨p, q, hA0, hV, rfl, hfz, hnd⟩ := hW
  have hA : DataW.TrodAll enc Tryz.prog W 0 (fun _ => true) true Tryz.f6.params.toList args.toList ds p := hA0
  rw [Tryz.params6] at hA
  obtain ⟨v0, vs, d0, ds', p1, p2, hargs, rfl, rfl, hd0, hrest⟩ := trodAll_cons hA
  obtain ⟨v1, vs, d1, ds', p1, p2, rfl, rfl, rfl, hd1, hrest⟩ := trodAll_cons hrest
  obtain ⟨v2, vs, d2, ds', p1, p2, rfl, rfl, rfl, hd2, hrest⟩ := trodAll_cons hrest
  obtain ⟨rfl, rfl, rfl⟩ := trodAll_nil hrest
  obtain rfl : args = #[v0, v1, v2] := by cases args; simp_all
  obtain ⟨rfl, rfl⟩ := trodVars_none hV
  rw [Tryz.params6] at hval
  have o0 := okWide_string Tryz.underlying9 (hval 0 9 v0 (by simp) (by simp))
  have o1 := okWide_string Tryz.underlying9 (hval 1 9 v1 (by simp) (by simp))
  have o2 := okWide_string Tryz.underlying9 (hval 2 9 v2 (by simp) (by simp))
  obtain ⟨s0, rfl⟩ := o0
  obtain ⟨s1, rfl⟩ := o1
  obtain ⟨s2, rfl⟩ := o2
  obtain rfl := str_read Tryz.underlying9 hd0
  obtain rfl := str_read Tryz.underlying9 hd1
  obtain rfl := str_read Tryz.underlying9 hd2
  have hk := of_decide_eq_true hk
  simp only [List.append_nil, Rows.uptoBulkAll, Rows.uptoBulk] at hk
  have hr := keys_run (M := ⟨fun _ => none, fun _ => none⟩) (h := Go.Proofs.YtfaemheimmndgaaGreatDoor.XI.H.empty) (nb s0) (nb s1) (nb s2) (by rw [nb_len]; omega) (by rw [nb_len]; omega) (by rw [nb_len]; omega)
  refine (runS hr W (fun a v e => by cases e) (.cons _ _ _ _ (.s _ _ rfl) (.cons _ _ _ _ (.s _ _ rfl) (.cons _ _ _ _ (.s _ _ rfl) .nil)))).mono fun e W' ⟨he, h1, h4, h2, h5, h3⟩ => ?_
  subst he
  exact ⟨_, rfl, law_post hW' rfl ⟨rfl, rfl, rfl⟩ resBool Tryz.underlying4 k1 paramsRead ⟨h1, h4, h2, h5, h3⟩⟩

/-- A WORLD FOR THE WITNESS: the settled one, the two listed tables holding what the text lays. -/
def acceptNums : List Int := [128, 191, 160, 191, 128, 159, 144, 191, 128, 143, 0, 0, 0, 0, 0, 0, 0, 0, 0, 0, 0, 0, 0, 0, 0, 0, 0, 0, 0, 0, 0, 0]
def layAt (ns : List Int) : Obj → Obj
  | .cells _ t frozen => .cells (ns.map fun n => Value.int .u8 n).toArray t frozen
  | o => o
def zeroArgs : Array Value := #[.string ⟨#[]⟩, .string ⟨#[]⟩, .string ⟨#[]⟩]
def zeroData (H : Type) : List (DataW H) := [.lit (.string []), .lit (.string []), .lit (.string [])]
noncomputable def laidWorld (os : Os) : World :=
  { World.holding Tryz.prog os ⟨#[], #[], []⟩ with heap := ((World.holding Tryz.prog os ⟨#[], #[], []⟩).heap.modify 1 (layAt acceptNums)).modify 0 (layAt (Go.Pinned.utf8FirstZ.map Int.ofNat)) }
set_option maxRecDepth 100000 in
theorem laid_met (os : Os) : laidMet Tryz.prog Rows.ledgerKeysUptoRow.laid ((laidWorld os).forCall (fun _ _ => 0) ⟨#[], zeroArgs, []⟩).memory :=
  laidMet_of_run' 8 (by kernel_rfl) (by kernel_rfl)
theorem reads (os : Os) {H : Type} (enc : TypeId × Value → H) : ∃ places, DataW.whole enc Tryz.prog ((laidWorld os).forCall (fun _ _ => 0) ⟨#[], zeroArgs, []⟩).memory Tryz.f6.params.toList Rows.ledgerKeysSpec.vars false zeroArgs.toList 8 = some (zeroData H, [], places) :=
  ⟨[], by kernel_rfl⟩

set_option maxRecDepth 100000 in
theorem lifted (os : Os) (started : os.Started) (H : Type) (enc : TypeId × Value → H) (F : Stop.Interp) :
    ReturnsInHanded {} Tryz.checked os 6 .any ((Rows.OpenSpec.upto Rows.ledgerKeysSpec).preRow enc Tryz.prog Tryz.f6 Rows.ledgerKeysUptoRow.domain false Rows.ledgerKeysUptoRow.laid) (((Rows.OpenSpec.upto Rows.ledgerKeysSpec).at F).post enc Tryz.prog Tryz.f6 false true false false) := by
  obtain ⟨places, hx⟩ := reads os enc
  refine returnsInHanded_of_row (C := Tryz.checked) (s := Rows.OpenSpec.upto Rows.ledgerKeysSpec) own started (by kernel_rfl) Tryz.func6
    (witness_row_at (enc := enc) (C := Tryz.checked) false (laidWorld os) zeroArgs rfl (by kernel_rfl) (by kernel_rfl) (by kernel_rfl)
      (OpenSpec.preRow_of_cond 8 hx (by kernel_rfl) (fun k hk => by cases hk; rfl) (by kernel_rfl) (laid_met os))) ?_
  intro W base args ds gs before hval hW _ hk _ hL _ _
  exact contract H enc W base args ds gs before hval hW (hk _ rfl)

set_option maxRecDepth 100000 in
theorem said : Rows.LedgerKeysUptoSaid :=
  OpenClaim.holds_of_cond 6 Tryz.f6 rfl rfl rfl rfl rfl rfl rfl ⟨rfl, rfl, rfl, rfl, rfl⟩ rfl rfl rfl rfl rfl (by kernel_rfl) Tryz.func6 closed
    (of_decide_eq_true (by kernel_rfl)) (by unfold Func.isWrapper; first | (rw [if_pos (by decide +kernel)]; kernel_rfl) | (rw [if_neg (by decide +kernel)]; exact ⟨rfl, rfl⟩))
    (fun os started H enc _ F => by rw [OpenClaim.pre_eq_preRow]; exact lifted os started H enc F)

end Go.Proofs.YtfaemheimmndgaaGreatDoor.ledgerKeys
