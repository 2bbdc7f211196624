/- sums.feed -/
import Derived.Test.YtfaemheimmndgaaGreatDoorLE
set_option linter.unusedVariables false
namespace Go.Proofs.YtfaemheimmndgaaGreatDoor
open Go.Proofs.YtfaemheimmndgaaGreatDoor.XI

noncomputable def hd1 (l : List Code) : Code := List.rec (motive := fun _ => Code) .skip (fun c _ _ => c) l
noncomputable def inn (c : Code) : Code := match c with | .loop x => x | .block _ x => x | c => c
noncomputable def bodyOf (F : Func) : Code := match F.body with | some c => c | none => .skip
noncomputable def getI (x : Option AV) : Int := match x with | some (.i _ n) => n | _ => 0

noncomputable def feedC : Code := bodyOf Tryz.f333
noncomputable def feed0 : Code := inn (hd1 (blocksOf 0 feedC))
noncomputable def feed2 : Code := inn (hd1 (blocksOf 2 feedC))
theorem feed_bl0 : blocksOf 0 feedC = [.loop feed0] := by kernel_rfl
theorem feed_bl2 : blocksOf 2 feed0 = [.loop feed2] := by kernel_rfl
theorem feed_k : codeOk 31 feedC = true := by kernel_rfl
theorem feed_k0 : codeOk 31 feed0 = true := by kernel_rfl
theorem feed_k2 : codeOk 31 feed2 = true := by kernel_rfl

noncomputable def uA (a b : Int) : Int := getI (iBin .and .u32 a b)
noncomputable def uX (a b : Int) : Int := getI (iBin .xor .u32 a b)
noncomputable def uS (a b : Int) : Int := getI (iShift .shr .u32 a b)
noncomputable def i64 (n : Nat) : AV := .i .i64 (.ofNat n)
noncomputable def F0 (r : Int) (l : List Nat) (n i : Nat) : Fr := mkFr 31 [(0, .i .u32 r), (1, .s l), (8, i64 n), (9, i64 i)]
noncomputable def F2 (r : Int) (l : List Nat) (n i k : Nat) : Fr := mkFr 31 [(0, .i .u32 r), (1, .s l), (8, i64 n), (9, i64 i), (18, i64 k)]
variable {M : Mem} {rb : Option Nat} {h : H}

theorem wr_ofNat {m : Nat} (hm : m < 9223372036854775808) : wr .i64 (.ofNat m) = .ofNat m := by
  unfold wr
  show Bool.rec (motive := fun _ => Int) _ _ (Nat.ble (Nat.succ m) 9223372036854775808) = _
  rw [show Nat.ble (Nat.succ m) 9223372036854775808 = true by rw [Nat.ble_eq]; omega]
theorem iLt_nat (a b : Nat) : iLt (.ofNat a) (.ofNat b) = decide (a < b) := by
  rw [iLt_eq]
  simp

theorem round2 (r : Int) (l : List Nat) (n i k : Nat) (hk : k < 8) : Snd E M 31 rb feed2 (F2 r l n i k) h (.nor (F2 (cond (iEq (uA r 1) 1) (uX (uS r 1) 3988292384) (uS r 1)) l n i (k + 1)) h) := by
  cases hd : iEq (uA r 1) 1
  · refine run_T E_ok mixed noCall_ok 1 feed_k2 noTb_ok (ts := [(19, .v (.b true)), (25, .v (.b false)), (28, .v (i64 (Nat.succ k)))]) [0, 1, 8, 9, 18] (by kernel_rfl) (by kernel_rfl)
      (tld (q := some (AV.b (iLt (.ofNat k) 8)) = some (.b true) ∧ some (AV.b (iEq (uA r 1) 1)) = some (.b false) ∧ some (AV.i .i64 (wr .i64 (.ofNat (Nat.add k 1)))) = some (i64 (Nat.succ k)) ∧ True) (by kernel_rfl)
        ⟨by rw [show (8 : Int) = .ofNat 8 from rfl, iLt_nat, decide_eq_true hk], by rw [hd], by rw [wr_ofNat (by show k + 1 < _; omega)]; rfl, trivial⟩)
  · refine run_T E_ok mixed noCall_ok 1 feed_k2 noTb_ok (ts := [(19, .v (.b true)), (25, .v (.b true)), (28, .v (i64 (Nat.succ k)))]) [0, 1, 8, 9, 18] (by kernel_rfl) (by kernel_rfl)
      (tld (q := some (AV.b (iLt (.ofNat k) 8)) = some (.b true) ∧ some (AV.b (iEq (uA r 1) 1)) = some (.b true) ∧ some (AV.i .i64 (wr .i64 (.ofNat (Nat.add k 1)))) = some (i64 (Nat.succ k)) ∧ True) (by kernel_rfl)
        ⟨by rw [show (8 : Int) = .ofNat 8 from rfl, iLt_nat, decide_eq_true hk], by rw [hd], by rw [wr_ofNat (by show k + 1 < _; omega)]; rfl, trivial⟩)
noncomputable def bitI (r : Int) : Int := cond (iEq (uA r 1) 1) (uX (uS r 1) 3988292384) (uS r 1)
theorem end2 (r : Int) (l : List Nat) (n i : Nat) : Snd E M 31 rb feed2 (F2 r l n i 8) h (.ex 2 (F2 r l n i 8) h) :=
  run_T E_ok mixed noCall_ok 1 feed_k2 noTb_ok (ts := []) [0, 1, 8, 9, 18] (by kernel_rfl) (by kernel_rfl) (tld (q := True) (by kernel_rfl) trivial)
noncomputable def bits (j : Nat) (r : Int) : Int := Nat.rec (motive := fun _ => Int → Int) (fun r => r) (fun _ ih r => ih (bitI r)) j r
theorem loop2 (l : List Nat) (n i : Nat) : ∀ (j : Nat) (r : Int) (k : Nat), k + j = 8 → Loops E M 31 rb feed2 (F2 r l n i k) h (.ex 2 (F2 (bits j r) l n i 8) h)
  | 0, r, k, hk => by
    have : k = 8 := by omega
    subst this
    exact .ex (end2 r l n i)
  | j + 1, r, k, hk => .next (round2 r l n i k (by omega)) (loop2 l n i j (bitI r) (k + 1) (by omega))

noncomputable def byteI (r : Int) (x : Nat) : Int := bits 8 (uX r (IntKind.wrap .u32 (.ofNat x)))
theorem round0 (r : Int) (l : List Nat) (n i x : Nat) (hi : i < n) (hn : n < 4611686018427387904) (hx : l[i]? = some x) : Snd E M 31 rb feed0 (F0 r l n i) h (.nor (F0 (byteI r x) l n (i + 1)) h) :=
  run_T E_ok mixed noCall_ok 1 feed_k0 (oneTb_ok feed_bl2 (t := ⟨[0, 1, 8, 9, 18], F2 (uX r (IntKind.wrap .u32 (.ofNat x))) l n i 0, h, .nor (F2 (byteI r x) l n i 8) h⟩) (Snd.loop_ex (loop2 l n i 8 _ 0 rfl)) (by kernel_rfl))
      (ts := [(10, .v (.b true)), (15, .v (.i .u8 (.ofNat x))), (29, .v (i64 (Nat.succ i)))]) [0, 1, 8, 9] (by kernel_rfl) (by kernel_rfl)
      (tld (q := some (AV.b (iLt (.ofNat i) (.ofNat n))) = some (.b true) ∧ Go.Proofs.YtfaemheimmndgaaGreatDoor.XI.valOf (keep h (aIndex E 9 (.s l) (i64 i))) = some (.i .u8 (.ofNat x)) ∧ (F2 (uX r (IntKind.wrap .u32 (.ofNat x))) l n i 0 = F2 (uX r (IntKind.wrap .u32 (.ofNat x))) l n i 0) ∧ (h = h) ∧ some (AV.i .i64 (wr .i64 (.ofNat (Nat.add i 1)))) = some (i64 (Nat.succ i)) ∧ True) (by kernel_rfl)
        ⟨by rw [iLt_nat, decide_eq_true hi], q_index (by kernel_rfl) hx, rfl, rfl, by rw [wr_ofNat (by show i + 1 < _; omega)]; rfl, trivial⟩)
theorem end0 (r : Int) (l : List Nat) (n : Nat) : Snd E M 31 rb feed0 (F0 r l n n) h (.ex 0 (F0 r l n n) h) :=
  run_T E_ok mixed noCall_ok 1 feed_k0 noTb_ok (ts := [(10, .v (.b false))]) [0, 1, 8, 9] (by kernel_rfl) (by kernel_rfl)
    (tld (q := some (AV.b (iLt (.ofNat n) (.ofNat n))) = some (.b false) ∧ True) (by kernel_rfl) ⟨by rw [iLt_nat]; simp, trivial⟩)
/-- Bytes, fed. -/
noncomputable def feedI (l : List Nat) : Int → Int := List.rec (motive := fun _ => Int → Int) (fun r => r) (fun x _ ih r => ih (byteI r x)) l
theorem loop0 (l : List Nat) (hn : l.length < 4611686018427387904) : ∀ (s : List Nat) (r : Int) (i : Nat), l.drop i = s → i ≤ l.length → Loops E M 31 rb feed0 (F0 r l l.length i) h (.ex 0 (F0 (feedI s r) l l.length l.length) h)
  | [], r, i, hs, hi => by
    have : i = l.length := by
      have := congrArg List.length hs
      simp at this
      omega
    subst this
    exact .ex (end0 r l l.length)
  | x :: s, r, i, hs, hi => by
    have hlt : i < l.length := by
      have := congrArg List.length hs
      simp at this
      omega
    have hx : l[i]? = some x := by
      have : (l.drop i)[0]? = some x := by rw [hs]; rfl
      simpa using this
    have ht : l.drop (i + 1) = s := by rw [← List.drop_drop, hs]; rfl
    exact .next (round0 r l l.length i x hlt hn hx) (loop0 l hn s (byteI r x) (i + 1) ht (by omega))

theorem feed_ok (r : Int) (l : List Nat) (hn : l.length < 4611686018427387904) (h : H) : CallS E M (.fn 333) [.i .u32 r, .s l] h (.i .u32 (feedI l r)) h := by
  have hs : Snd E M 31 none (.block 0 (.loop feed0)) (F0 r l (ln l) 0) h (.nor (F0 (feedI l r) l (ln l) (ln l)) h) := by
    rw [ln_eq]
    have hx := loop0 (M := M) (rb := none) (h := h) l hn l r 0 List.drop_zero (Nat.zero_le _)
    exact Snd.loop_ex hx
  have ht := oneTb_ok (t := ⟨[0, 1, 8, 9], F0 r l (ln l) 0, h, .nor (F0 (feedI l r) l (ln l) (ln l)) h⟩) feed_bl0 hs (by kernel_rfl)
  refine callS_T E_ok mixed noCall_ok (F := Tryz.f333) (by kernel_rfl) (c := feedC) (by kernel_rfl) (n := 31) (by kernel_rfl) (rs := [.tmp 4]) (by kernel_rfl) feed_k (by kernel_rfl) (ts := []) 1 ht ?_ ?_
  · exact tld (q := (F0 r l (ln l) 0 = F0 r l (ln l) 0) ∧ h = h ∧ True) (by kernel_rfl) ⟨rfl, rfl, trivial⟩
  · kernel_rfl
end Go.Proofs.YtfaemheimmndgaaGreatDoor
