/- Some functions without a body. Part of a verified reckoner of runs: no condition. -/
import Derived.Test.YtfaemheimmndgaaGreatDoorXY
import Derived.Lib.Bytealg
set_option linter.unusedVariables false
set_option linter.unusedSimpArgs false
namespace Go.Proofs.YtfaemheimmndgaaGreatDoor.XI
noncomputable section

/-! ### 20. Some functions without a body -/
def ExtAt (P : Program) (f : FuncId) (x : List AV → Option AV) : Prop := ∀ args z, x args = some z → ∀ (σ : Nat → Loc) (A : Nat → Prop) (M : Mem) (w : World) (cargs : Array Value), RelL σ A M args cargs.toList →
  ∃ v, (callFunc f cargs).run P w = .ok (.value v) w ∧ RelV σ A M z v

theorem extAt_of {P : Program} {f : FuncId} {fn : Func} {e : Array Value → Sem Value} {x : List AV → Option AV} (hf : P.funcs[f]? = some fn) (hname : (fn.name == "runtime.NumGoroutine") = false) (hb : fn.body.isNone = true) (hn : Extern.findNext fn = none) (he : Extern.find fn = some e)
    (h : ∀ args z, x args = some z → ∀ (σ : Nat → Loc) (A : Nat → Prop) (M : Mem) (w : World) (cargs : Array Value), RelL σ A M args cargs.toList → ∃ v, (e cargs).run P w = .ok v w ∧ RelV σ A M z v) : ExtAt P f x := by
  intro args z hx σ A M w cargs hl
  obtain ⟨v, h1, h2⟩ := h args z hx σ A M w cargs hl
  refine ⟨v, ?_, h2⟩
  rw [run_callFunc_extern hf hname hb hn he, h1]
  rfl

def xBits : List AV → Option AV | [.f .f64 n] => some (.i .u64 (.ofNat n)) | _ => none
def xFrom : List AV → Option AV | [.i .u64 n] => some (.f .f64 n.toNat) | _ => none
def cntN (n : Nat) (l : List Nat) : Nat := List.rec (motive := fun _ => Nat) 0 (fun x _ ih => cond (Nat.beq x n) (Nat.succ ih) ih) l
def xCount : List AV → Option AV | [.s l, .i .u8 c] => some (.i .i64 (.ofNat (cntN (Nat.mod c.toNat 256) l))) | _ => none

section
variable {P : Program} {σ : Nat → Loc} {A : Nat → Prop} {M : Mem} {w : World}
theorem relL1 {x : AV} {cargs : Array Value} (h : RelL σ A M [x] cargs.toList) : ∃ v, cargs = #[v] ∧ RelV σ A M x v := by
  obtain ⟨l⟩ := cargs
  simp only at h
  cases h with | cons _ v _ vs h1 h2 => cases h2; exact ⟨v, rfl, h1⟩
theorem relL2 {x y : AV} {cargs : Array Value} (h : RelL σ A M [x, y] cargs.toList) : ∃ v u, cargs = #[v, u] ∧ RelV σ A M x v ∧ RelV σ A M y u := by
  obtain ⟨l⟩ := cargs
  simp only at h
  cases h with | cons _ v _ vs h1 h2 => cases h2 with | cons _ u _ us h3 h4 => cases h4; exact ⟨v, u, rfl, h1, h3⟩

theorem xBits_ok : ∀ args z, xBits args = some z → ∀ (σ : Nat → Loc) (A : Nat → Prop) (M : Mem) (w : World) (cargs : Array Value), RelL σ A M args cargs.toList → ∃ v, (Extern.MathFloatBits.float64bits cargs).run P w = .ok v w ∧ RelV σ A M z v := by
  intro args z hx σ A M w cargs hl
  unfold xBits at hx
  split at hx
  · cases hx
    obtain ⟨v, rfl, h1⟩ := relL1 hl
    cases h1
    exact ⟨_, rfl, .i _ _⟩
  · cases hx
theorem xFrom_ok : ∀ args z, xFrom args = some z → ∀ (σ : Nat → Loc) (A : Nat → Prop) (M : Mem) (w : World) (cargs : Array Value), RelL σ A M args cargs.toList → ∃ v, (Extern.MathFloatBits.float64frombits cargs).run P w = .ok v w ∧ RelV σ A M z v := by
  intro args z hx σ A M w cargs hl
  unfold xFrom at hx
  split at hx
  · cases hx
    obtain ⟨v, rfl, h1⟩ := relL1 hl
    cases h1
    exact ⟨_, rfl, .f _ _⟩
  · cases hx
theorem cntN_eq (c : Nat) : ∀ (l : List UInt8), cntN (Nat.mod c 256) (l.map (·.toNat)) = Lib.countByte l c.toUInt8
  | [] => rfl
  | x :: l => by
    have ih := cntN_eq c l
    show cond (Nat.beq x.toNat (Nat.mod c 256)) (Nat.succ (cntN (Nat.mod c 256) (l.map (·.toNat)))) (cntN (Nat.mod c 256) (l.map (·.toNat))) = _
    rw [ih, natBeq, cond_eq_if]
    unfold Lib.countByte
    rw [List.count_cons]
    have hc : c.toUInt8.toNat = c % 256 := by simp [Nat.toUInt8]
    by_cases h : x = c.toUInt8
    · subst h
      rw [if_pos (decide_eq_true (show c.toUInt8.toNat = Nat.mod c 256 from hc))]
      simp
    · have h2 : ¬ x.toNat = Nat.mod c 256 := fun e => h (UInt8.toNat_inj.1 (by rw [hc]; exact e))
      rw [if_neg (by simpa using h2)]
      simp [h]
theorem xCount_ok : ∀ args z, xCount args = some z → ∀ (σ : Nat → Loc) (A : Nat → Prop) (M : Mem) (w : World) (cargs : Array Value), RelL σ A M args cargs.toList → ∃ v, (Extern.BytealgCount.count cargs).run P w = .ok v w ∧ RelV σ A M z v := by
  intro args z hx σ A M w cargs hl
  unfold xCount at hx
  split at hx
  · rename_i l c
    cases hx
    obtain ⟨v, u, rfl, h1, h2⟩ := relL2 hl
    cases h1 with | s _ t ht =>
    cases h2
    refine ⟨_, Lib.run_countString t c w, ?_⟩
    have : cntN (Nat.mod c.toNat 256) l = Lib.countByte t.data.toList c.toNat.toUInt8 := by
      rw [← cntN_eq, ← ht]; rfl
    rw [this]
    exact .i _ _
  · cases hx
end
end
end Go.Proofs.YtfaemheimmndgaaGreatDoor.XI
