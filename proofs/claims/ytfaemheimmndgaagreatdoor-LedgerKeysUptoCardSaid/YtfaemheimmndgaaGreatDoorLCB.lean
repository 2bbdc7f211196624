/- EntryKey of layer 20 and of its reference answer the same nine bytes: no condition beside the kind of the number. -/
import Derived.Test.YtfaemheimmndgaaGreatDoorLCA
set_option linter.unusedVariables false
namespace Go.Proofs.YtfaemheimmndgaaGreatDoor
open Go.Proofs.YtfaemheimmndgaaGreatDoor.XI
/-- Values that point at nothing. -/
def flatA : AV → Bool | .b _ | .i _ _ | .f _ _ | .s _ => true | _ => false
theorem flat_rel {σ σ' : Nat → Go.Proofs.YtfaemheimmndgaaGreatDoor.XI.Loc} {A A' : Nat → Prop} {M M' : Mem} {x : AV} {v : Value} (hx : flatA x = true) (h : RelV σ A M x v) : RelV σ' A' M' x v := by
  cases h with
  | b x => exact .b x
  | i k n => exact .i k n
  | f k n => exact .f k n
  | s l t e => exact .s l t e
  | _ => cases hx
theorem flat_relL {σ σ' : Nat → Go.Proofs.YtfaemheimmndgaaGreatDoor.XI.Loc} {A A' : Nat → Prop} {M M' : Mem} : ∀ {xs : List AV} {vs : List Value}, xs.all flatA = true → RelL σ A M xs vs → RelL σ' A' M' xs vs
  | [], vs, _, h => by cases h; exact .nil
  | x :: xs, vs, hx, h => by
    simp only [List.all_cons, Bool.and_eq_true] at hx
    cases h with | cons _ _ _ _ h t => exact .cons _ _ _ _ (flat_rel hx.1 h) (flat_relL hx.2 t)
/-- A call over values that point at nothing leaves whatever there is as it is. -/
theorem closed_flat {E : Env} {M : Mem} {f : FuncId} {args : List AV} {z : AV} {h1 : H} (ha : args.all flatA = true) (hz : flatA z = true) (hc : CallS E ⟨fun _ => none, fun _ => none⟩ (.fn f) args H.empty z h1) (h : H) : CallS E M (.fn f) args h z h := by
  intro σ A w cargs hl rh
  have hl' : RelL (fun _ => default) (fun _ => False) ⟨fun _ => none, fun _ => none⟩ args cargs.toList := flat_relL ha hl
  refine (hc _ _ w cargs hl' (relH_empty w)).mono fun e w' he => ?_
  obtain ⟨v, σ', A', rfl, s, rv, r'⟩ := he
  have old : ∀ k, k < w.heap.size → w'.heap[k]? = w.heap[k]? := fun k hk => s.keep k hk (by
    rintro ⟨b, x, e, _⟩
    have : H.empty.get b = none := T.get_e b
    rw [this] at e; cases e)
  exact ⟨v, σ, A, rfl, ⟨fun _ a => ⟨a, rfl⟩, fun _ a => .inl a, s.os, s.tape, s.output, s.size, fun k hk _ => old k hk, fun _ o => .inl o, Nat.le_refl _, rfl, fun _ _ => rfl, rfl, rfl, fun _ e => .inl e⟩, flat_rel hz rv,
    ⟨rh.bound, rh.dom, fun b x e => RelB.move (fun _ a => ⟨a, rfl⟩) (rh.dom b x e) (fun l => old _ ((rh.blk b x e).lt l)) (rh.blk b x e), rh.inj, fun a v e => ⟨stay_of rh e (fun k hk _ => old k hk), (rh.stay a v e).2⟩, rh.wb, rh.pos⟩⟩
noncomputable def fstO (r : Option (AV × H)) : Option AV := match r with | some (x, _) => some x | none => none
theorem fstO_some {r : Option (AV × H)} {x : AV} (h : fstO r = some x) : ∃ h1, r = some (x, h1) := by
  unfold fstO at h
  split at h
  · cases h; exact ⟨_, rfl⟩
  · cases h
noncomputable def bR (m : Nat) : Nat := Nat.mod (IntKind.wrap .u8 (.ofNat m)).toNat 256
noncomputable def s8 (m : Nat) : Nat := Nat.shiftRight m 8
noncomputable def ekR (m : Nat) : List Nat := [0, bR (s8 (s8 (s8 (s8 (s8 (s8 (s8 m))))))), bR (s8 (s8 (s8 (s8 (s8 (s8 m)))))), bR (s8 (s8 (s8 (s8 (s8 m))))), bR (s8 (s8 (s8 (s8 m)))), bR (s8 (s8 (s8 m))), bR (s8 (s8 m)), bR (s8 m), bR m]
noncomputable def ekL (m : Nat) : List Nat := [0, bR (Nat.shiftRight m 56), bR (Nat.shiftRight m 48), bR (Nat.shiftRight m 40), bR (Nat.shiftRight m 32), bR (Nat.shiftRight m 24), bR (Nat.shiftRight m 16), bR (Nat.shiftRight m 8), bR (Nat.shiftRight m 0)]
theorem ekR_run (m : Nat) : fstO (callM E (drawA E) noCall 1000 20 (.fn 20) [.i .u64 (.ofNat m)] H.empty) = some (.s (ekR m)) := by kernel_rfl
theorem ekL_run (m : Nat) : fstO (callM E (drawA E) noCall 1000 20 (.fn 19) [.i .u64 (.ofNat m)] H.empty) = some (.s (ekL m)) := by kernel_rfl
theorem ek_eq (m : Nat) : ekL m = ekR m := by
  have e : ∀ a : Nat, Nat.shiftRight (Nat.shiftRight m a) 8 = Nat.shiftRight m (a + 8) := fun a => (Nat.shiftRight_add m a 8).symm
  have z : Nat.shiftRight m 0 = m := rfl
  simp only [ekL, ekR, s8, e, Nat.reduceAdd, z]
theorem entry_ok {M : Mem} (m : Nat) (h : H) : CallS E M (.fn 19) [.i .u64 (.ofNat m)] h (.s (ekR m)) h := by
  obtain ⟨h1, e⟩ := fstO_some (ekL_run m)
  rw [← ek_eq]
  exact closed_flat rfl rfl (callM_ok E_ok mixed noCall_ok 1000 20 _ _ _ _ _ e) h
theorem entryR_ok {M : Mem} (m : Nat) (h : H) : CallS E M (.fn 20) [.i .u64 (.ofNat m)] h (.s (ekR m)) h := by
  obtain ⟨h1, e⟩ := fstO_some (ekR_run m)
  exact closed_flat rfl rfl (callM_ok E_ok mixed noCall_ok 1000 20 _ _ _ _ _ e) h

/-- What the law's calls answer. -/
noncomputable def lawSp : FuncId → List AV → Option AV := fun f args => match args with
  | [] => if f = 8 then some (.b true) else none
  | [.s k] => if f = 17 then some (.s (1 :: k)) else if f = 18 then some (.s (1 :: k)) else if f = 15 then some (.tup [.s (plL k), .b (plB k)]) else if f = 16 then some (.tup [.s (plL k), .b (plB k)]) else none
  | [.s a, .s b] => if f = 13 then some (.tup [.s (1 :: a), .s (endL b)]) else if f = 14 then some (.tup [.s (1 :: a), .s (endL b)]) else none
  | [.i .u64 (.ofNat m)] => if f = 19 then some (.s (ekR m)) else if f = 20 then some (.s (ekR m)) else none
  | _ => none
theorem lawSp_ok {M : Mem} : CallOk E M (toldF lawSp short) := toldF_ok fun f args z h hs hf => by
  unfold lawSp at hs
  split at hs
  · split at hs
    · rename_i hf1; subst hf1; cases hs; exact lives_ok h
    · cases hs
  · rename_i k
    have hk := short1.1 hf
    split at hs
    · rename_i hf1; subst hf1; cases hs; exact key_ok k hk h
    split at hs
    · rename_i hf1; subst hf1; cases hs; exact keyR_ok k hk h
    split at hs
    · rename_i hf1; subst hf1; cases hs; exact plain_ok k hk h
    split at hs
    · rename_i hf1; subst hf1; cases hs; exact plainR_ok k hk h
    · cases hs
  · rename_i a b
    have hk := short2.1 hf
    split at hs
    · rename_i hf1; subst hf1; cases hs; exact ends_ok a b hk.1 hk.2 h
    split at hs
    · rename_i hf1; subst hf1; cases hs; exact endsR_ok a b hk.1 hk.2 h
    · cases hs
  · rename_i m
    split at hs
    · rename_i hf1; subst hf1; cases hs; exact entry_ok m h
    split at hs
    · rename_i hf1; subst hf1; cases hs; exact entryR_ok m h
    · cases hs
  · cases hs
end Go.Proofs.YtfaemheimmndgaaGreatDoor
