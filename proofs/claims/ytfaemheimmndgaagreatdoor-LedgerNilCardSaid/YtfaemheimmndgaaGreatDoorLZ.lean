/- LedgerNil's run answers true of every step: no condition. -/
import Derived.Test.YtfaemheimmndgaaGreatDoorLW
import Derived.Test.YtfaemheimmndgaaGreatDoorXP
set_option linter.unusedVariables false
namespace Go.Proofs.YtfaemheimmndgaaGreatDoor
open Go.Proofs.YtfaemheimmndgaaGreatDoor.XI
noncomputable def sizeB : Code := bodyOf Tryz.f50
noncomputable def sizeI (n : Int) : Int := cond (iLt n 0) 18446744073709551615 (IntKind.wrap .u64 n)
theorem size_k : codeOk 7 sizeB = true := by kernel_rfl
theorem size_of {M : Mem} {n : Int} {z : AV} {ts : List (Nat × Tell)} (h : H)
    (e : endA E [.tmp 2] (execT E noCall ts [] 7 1 sizeB (frOf [.i .i64 n] 0 .e) h).1 = some (z, h)) (hp : TldP (execT E noCall ts [] 7 1 sizeB (frOf [.i .i64 n] 0 .e) h).2) : CallS E M (.fn 50) [.i .i64 n] h z h := by
  have h1 : E.fn 50 = some Tryz.f50 := by kernel_rfl
  have h2 : Tryz.f50.body = some sizeB := by kernel_rfl
  have h3 : Tryz.f50.ntmps = 7 := by kernel_rfl
  have h4 : Tryz.f50.results.toList = [.tmp 2] := by kernel_rfl
  exact callS_T E_ok mixed noCall_ok h1 h2 h3 h4 size_k rfl 1 noTb_ok hp e
theorem size_ok {M : Mem} (n : Int) (h : H) : CallS E M (.fn 50) [.i .i64 n] h (.i .u64 (sizeI n)) h := by
  unfold sizeI
  cases hn : iLt n 0
  · exact size_of (ts := [(4, .v (.b false))]) h (by kernel_rfl) (tld (q := some (AV.b (iLt n 0)) = some (.b false) ∧ True) (by kernel_rfl) ⟨by rw [hn], trivial⟩)
  · exact size_of (ts := [(4, .v (.b true))]) h (by kernel_rfl) (tld (q := some (AV.b (iLt n 0)) = some (.b true) ∧ True) (by kernel_rfl) ⟨by rw [hn], trivial⟩)
/-- size() of a value that is only named. -/
noncomputable def sizeC : CallF := fun t args h => match t, args with
  | .fn f, [.tok i] => cond (Nat.beq f 50) (cond (Nat.beq i 4) (some (.tok 14, h)) (cond (Nat.beq i 5) (some (.tok 15, h)) none)) none
  | _, _ => none
/-- The named values: the step's fields, and the two sizes. -/
def Steps (M : Mem) : Prop := ∃ n m : Int, M.val 4 = some (.int .i64 n) ∧ M.val 5 = some (.int .i64 m) ∧ M.val 14 = some (.int .u64 (sizeI n)) ∧ M.val 15 = some (.int .u64 (sizeI m))
theorem size_tok {M : Mem} {i j : Nat} {n : Int} (h1 : M.val i = some (.int .i64 n)) (h2 : M.val j = some (.int .u64 (sizeI n))) (h : H) : CallS E M (.fn 50) [.tok i] h (.tok j) h := by
  intro σ A w cargs hl rh
  have hl' : RelL σ A M [.i .i64 n] cargs.toList := by
    generalize cargs.toList = l at hl
    cases hl with | cons _ v _ vs g t =>
    cases t
    cases g with | tok _ _ hv _ _ =>
    rw [h1] at hv
    cases hv
    exact .singleton (.i _ _)
  refine (size_ok n h σ A w cargs hl' rh).mono fun e w' he => ?_
  obtain ⟨v, σ', A', rfl, s, rv, r'⟩ := he
  cases rv
  exact ⟨_, σ', A', rfl, s, .tok _ _ h2 rfl rfl, r'⟩
theorem sizeC_ok {M : Mem} (hM : Steps M) : CallOk E M sizeC := by
  obtain ⟨n, m, h4, h5, h14, h15⟩ := hM
  intro t args h z h' e
  unfold sizeC at e
  split at e
  · rename_i f i
    simp only [Go.Proofs.YtfaemheimmndgaaGreatDoor.XI.cond_eq_if, natBeq] at e
    split at e
    case isFalse => cases e
    rename_i hf
    have hf := of_decide_eq_true hf
    subst hf
    split at e
    · rename_i hi
      have hi := of_decide_eq_true hi
      subst hi
      cases e
      exact size_tok h4 h14 h
    · split at e
      · rename_i hi
        have hi := of_decide_eq_true hi
        subst hi
        cases e
        exact size_tok h5 h15 h
      · cases e
  · cases e
noncomputable def nilV : CallF := orElse livesC sizeC
theorem nil_run : isT (callM E (drawA E) nilV 1000 60 (.fn 7) [.agg [.tok 0, .tok 1, .tok 2, .tok 3, .tok 4, .tok 5, .tok 6, .tok 7]] H.empty) = true := by kernel_rfl
end Go.Proofs.YtfaemheimmndgaaGreatDoor
