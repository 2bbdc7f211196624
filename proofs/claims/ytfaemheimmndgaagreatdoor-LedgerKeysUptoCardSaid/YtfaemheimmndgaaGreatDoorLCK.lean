/- LedgerKeys answers true of three strings that are short enough: no condition beside the length. -/
import Derived.Test.YtfaemheimmndgaaGreatDoorLCB
set_option linter.unusedVariables false
namespace Go.Proofs.YtfaemheimmndgaaGreatDoor
open Go.Proofs.YtfaemheimmndgaaGreatDoor.XI
noncomputable def lawB : Code := bodyOf Tryz.f6
theorem law_k : codeOk 136 lawB = true := by kernel_rfl
theorem law1 : E.fn 6 = some Tryz.f6 := by kernel_rfl
theorem law2 : Tryz.f6.body = some lawB := by kernel_rfl
theorem law3 : Tryz.f6.ntmps = 136 := by kernel_rfl
theorem law4 : Tryz.f6.results.toList = [.tmp 6] := by kernel_rfl
noncomputable def numI (a b : List Nat) : Int := wr .u64 (iAdd (wr .u64 (shlF (IntKind.u64.wrap ↑(ln a)) 40)) (wr .u64 (IntKind.u64.wrap ↑(ln b) * 257)))
theorem num_nat (a b : List Nat) : ∃ m, numI a b = .ofNat m := by
  unfold numI
  rw [wr_eq]
  have : 0 ≤ IntKind.wrap .u64 (iAdd (wr .u64 (shlF (IntKind.u64.wrap ↑(ln a)) 40)) (wr .u64 (IntKind.u64.wrap ↑(ln b) * 257))) := by
    generalize iAdd _ _ = x
    unfold IntKind.wrap
    exact Int.emod_nonneg _ (by decide)
  exact ⟨_, (Int.toNat_of_nonneg this).symm⟩
theorem q_eq {x : List Nat} : some (AV.b (eqN x x)) = some (.b true) := by rw [eqN_eq]; simp
theorem q_ne {x : List Nat} : some (AV.b (bNot (eqN x x))) = some (.b false) := by rw [eqN_eq, bNot_eq]; simp
theorem q_b {x y : Bool} (h : x = y) : some (AV.b x) = some (AV.b y) := by rw [h]
variable {M : Mem} {h : H}

theorem run_A (a b : List Nat) (hk : List.length (α := Nat) ([]) ≤ 1048576) (ha : a.length ≤ 1048576) (hb : List.length (α := Nat) (b) ≤ 1048576)  : CallS E M (.fn 6) [.s ([]), .s a, .s (b)] h (.b true) h := by
  obtain ⟨m, hm⟩ := num_nat a (b)
  have h0 := hk
  have hk := Nat.le_trans hk (show 1048576 ≤ 1099511627776 by decide)
  have ha := Nat.le_trans ha (show 1048576 ≤ 1099511627776 by decide)
  have hb := Nat.le_trans hb (show 1048576 ≤ 1099511627776 by decide)
  have shortI : short [.i .u64 (.ofNat m)] := by simp [short, shortA]
  have shortN : short [] := by simp [short]
  have hpl : plL ([]) = [] := by simp [plL]
  have hpb : plB ([]) = false := by simp [plB]
  exact callS_T E_ok mixed lawSp_ok law1 law2 law3 law4 law_k rfl (ts := [(22, .w (.tup [.s (1 :: a), .s (endL (b))]) (fun h => h)), (28, .w (.tup [.s (1 :: a), .s (endL (b))]) (fun h => h)), (33, .w (.tup [.s ([]), .b false]) (fun h => h)), (38, .w (.tup [.s ([]), .b false]) (fun h => h)), (49, .v (.i .u64 (.ofNat m))), (52, .v (.b false)), (56, .v (.b false)), (61, .v (.b false)), (70, .w (.s (1 :: [])) (fun h => h)), (72, .w (.s (1 :: [])) (fun h => h)), (73, .v (.b false)), (77, .w (.s (ekR m)) (fun h => h)), (79, .w (.s (ekR m)) (fun h => h)), (80, .v (.b false)), (84, .w (.s (1 :: [])) (fun h => h)), (85, .w (.tup [.s ([]), .b false]) (fun h => h)), (105, .v (.b false)), (118, .w (.s [1]) (fun h => h)), (119, .v (.b false)), (123, .v (.b false)), (134, .w (.b true) (fun h => h))]) 1 noTb_ok
    (tld (q := (toldF lawSp short (.fn 13) [.s a, .s (b)] h = some (.tup [.s (1 :: a), .s (endL (b))], h)) ∧ (toldF lawSp short (.fn 14) [.s a, .s (b)] h = some (.tup [.s (1 :: a), .s (endL (b))], h)) ∧ (toldF lawSp short (.fn 15) [.s ([])] h = some (.tup [.s ([]), .b false], h)) ∧ (toldF lawSp short (.fn 16) [.s ([])] h = some (.tup [.s ([]), .b false], h)) ∧ (some (AV.i .u64 (numI a (b))) = some (.i .u64 (.ofNat m))) ∧ (some (AV.b (bNot (eqN (1 :: a) (1 :: a)))) = some (.b false)) ∧ (some (AV.b (bNot (eqN (endL (b)) (endL (b))))) = some (.b false)) ∧ (some (AV.b (bNot (eqN ([]) ([])))) = some (.b false)) ∧ (toldF lawSp short (.fn 17) [.s ([])] h = some (.s (1 :: []), h)) ∧ (toldF lawSp short (.fn 18) [.s ([])] h = some (.s (1 :: []), h)) ∧ (some (AV.b (bNot (eqN (1 :: []) (1 :: [])))) = some (.b false)) ∧ (toldF lawSp short (.fn 19) [.i .u64 (.ofNat m)] h = some (.s (ekR m), h)) ∧ (toldF lawSp short (.fn 20) [.i .u64 (.ofNat m)] h = some (.s (ekR m), h)) ∧ (some (AV.b (bNot (eqN (ekR m) (ekR m)))) = some (.b false)) ∧ (toldF lawSp short (.fn 17) [.s ([])] h = some (.s (1 :: []), h)) ∧ (toldF lawSp short (.fn 15) [.s (1 :: [])] h = some (.tup [.s ([]), .b false], h)) ∧ (some (AV.b (bNot (eqN ([]) []))) = some (.b false)) ∧ (toldF lawSp short (.fn 17) [.s []] h = some (.s [1], h)) ∧ (some (AV.b (eqN ([]) [1])) = some (.b false)) ∧ (some (AV.b (bNot (lessN ([]) (1 :: a)))) = some (.b false)) ∧ (toldF lawSp short (.fn 8) [] h = some (.b true, h)) ∧ True) (by kernel_rfl)
      ⟨toldF_at (rfl) (short2.2 ⟨ha, hb⟩),
        toldF_at (rfl) (short2.2 ⟨ha, hb⟩),
        toldF_at (by simp [lawSp, hpl, hpb]) (short1.2 hk),
        toldF_at (by simp [lawSp, hpl, hpb]) (short1.2 hk),
        by rw [hm],
        q_ne,
        q_ne,
        q_ne,
        toldF_at (rfl) (short1.2 hk),
        toldF_at (rfl) (short1.2 hk),
        q_ne,
        toldF_at (rfl) (shortI),
        toldF_at (rfl) (shortI),
        q_ne,
        toldF_at (rfl) (short1.2 hk),
        toldF_at (by simp [lawSp, plL, plB]) (short1.2 (by first | (simp; done) | (simp at h0 ⊢; omega))),
        q_b (by rw [bNot_eq, eqN_eq]; simp),
        toldF_at (rfl) (short1.2 (by simp)),
        q_b (by rw [eqN_eq]; simp),
        q_b (by rw [bNot_eq]; simp [lessN]),
        toldF_at (rfl) (shortN), trivial⟩) (by kernel_rfl)

theorem run_B (a b : List Nat) (hk : List.length (α := Nat) ([1]) ≤ 1048576) (ha : a.length ≤ 1048576) (hb : List.length (α := Nat) (b) ≤ 1048576)  : CallS E M (.fn 6) [.s ([1]), .s a, .s (b)] h (.b true) h := by
  obtain ⟨m, hm⟩ := num_nat a (b)
  have h0 := hk
  have hk := Nat.le_trans hk (show 1048576 ≤ 1099511627776 by decide)
  have ha := Nat.le_trans ha (show 1048576 ≤ 1099511627776 by decide)
  have hb := Nat.le_trans hb (show 1048576 ≤ 1099511627776 by decide)
  have shortI : short [.i .u64 (.ofNat m)] := by simp [short, shortA]
  have shortN : short [] := by simp [short]
  have hpl : plL ([1]) = [] := by simp [plL]
  have hpb : plB ([1]) = false := by simp [plB]
  exact callS_T E_ok mixed lawSp_ok law1 law2 law3 law4 law_k rfl (ts := [(22, .w (.tup [.s (1 :: a), .s (endL (b))]) (fun h => h)), (28, .w (.tup [.s (1 :: a), .s (endL (b))]) (fun h => h)), (33, .w (.tup [.s ([]), .b false]) (fun h => h)), (38, .w (.tup [.s ([]), .b false]) (fun h => h)), (49, .v (.i .u64 (.ofNat m))), (52, .v (.b false)), (56, .v (.b false)), (61, .v (.b false)), (70, .w (.s (1 :: [1])) (fun h => h)), (72, .w (.s (1 :: [1])) (fun h => h)), (73, .v (.b false)), (77, .w (.s (ekR m)) (fun h => h)), (79, .w (.s (ekR m)) (fun h => h)), (80, .v (.b false)), (84, .w (.s (1 :: [1])) (fun h => h)), (85, .w (.tup [.s ([1]), .b true]) (fun h => h)), (105, .v (.b true)), (113, .v (.b true)), (118, .w (.s [1]) (fun h => h)), (119, .v (.b true)), (134, .w (.b true) (fun h => h))]) 1 noTb_ok
    (tld (q := (toldF lawSp short (.fn 13) [.s a, .s (b)] h = some (.tup [.s (1 :: a), .s (endL (b))], h)) ∧ (toldF lawSp short (.fn 14) [.s a, .s (b)] h = some (.tup [.s (1 :: a), .s (endL (b))], h)) ∧ (toldF lawSp short (.fn 15) [.s ([1])] h = some (.tup [.s ([]), .b false], h)) ∧ (toldF lawSp short (.fn 16) [.s ([1])] h = some (.tup [.s ([]), .b false], h)) ∧ (some (AV.i .u64 (numI a (b))) = some (.i .u64 (.ofNat m))) ∧ (some (AV.b (bNot (eqN (1 :: a) (1 :: a)))) = some (.b false)) ∧ (some (AV.b (bNot (eqN (endL (b)) (endL (b))))) = some (.b false)) ∧ (some (AV.b (bNot (eqN ([]) ([])))) = some (.b false)) ∧ (toldF lawSp short (.fn 17) [.s ([1])] h = some (.s (1 :: [1]), h)) ∧ (toldF lawSp short (.fn 18) [.s ([1])] h = some (.s (1 :: [1]), h)) ∧ (some (AV.b (bNot (eqN (1 :: [1]) (1 :: [1])))) = some (.b false)) ∧ (toldF lawSp short (.fn 19) [.i .u64 (.ofNat m)] h = some (.s (ekR m), h)) ∧ (toldF lawSp short (.fn 20) [.i .u64 (.ofNat m)] h = some (.s (ekR m), h)) ∧ (some (AV.b (bNot (eqN (ekR m) (ekR m)))) = some (.b false)) ∧ (toldF lawSp short (.fn 17) [.s ([1])] h = some (.s (1 :: [1]), h)) ∧ (toldF lawSp short (.fn 15) [.s (1 :: [1])] h = some (.tup [.s ([1]), .b true], h)) ∧ (some (AV.b (bNot (eqN ([1]) []))) = some (.b true)) ∧ (some (AV.b (eqN ([1]) ([1]))) = some (.b true)) ∧ (toldF lawSp short (.fn 17) [.s []] h = some (.s [1], h)) ∧ (some (AV.b (eqN ([1]) [1])) = some (.b true)) ∧ (toldF lawSp short (.fn 8) [] h = some (.b true, h)) ∧ True) (by kernel_rfl)
      ⟨toldF_at (rfl) (short2.2 ⟨ha, hb⟩),
        toldF_at (rfl) (short2.2 ⟨ha, hb⟩),
        toldF_at (by simp [lawSp, hpl, hpb]) (short1.2 hk),
        toldF_at (by simp [lawSp, hpl, hpb]) (short1.2 hk),
        by rw [hm],
        q_ne,
        q_ne,
        q_ne,
        toldF_at (rfl) (short1.2 hk),
        toldF_at (rfl) (short1.2 hk),
        q_ne,
        toldF_at (rfl) (shortI),
        toldF_at (rfl) (shortI),
        q_ne,
        toldF_at (rfl) (short1.2 hk),
        toldF_at (by simp [lawSp, plL, plB]) (short1.2 (by first | (simp; done) | (simp at h0 ⊢; omega))),
        q_b (by rw [bNot_eq, eqN_eq]; simp),
        q_eq,
        toldF_at (rfl) (short1.2 (by simp)),
        q_b (by rw [eqN_eq]; simp),
        toldF_at (rfl) (shortN), trivial⟩) (by kernel_rfl)

theorem run_C0 (a b r : List Nat) (hk : List.length (α := Nat) (0 :: r) ≤ 1048576) (ha : a.length ≤ 1048576) (hb : List.length (α := Nat) (b) ≤ 1048576)  : CallS E M (.fn 6) [.s (0 :: r), .s a, .s (b)] h (.b true) h := by
  obtain ⟨m, hm⟩ := num_nat a (b)
  have h0 := hk
  have hk := Nat.le_trans hk (show 1048576 ≤ 1099511627776 by decide)
  have ha := Nat.le_trans ha (show 1048576 ≤ 1099511627776 by decide)
  have hb := Nat.le_trans hb (show 1048576 ≤ 1099511627776 by decide)
  have shortI : short [.i .u64 (.ofNat m)] := by simp [short, shortA]
  have shortN : short [] := by simp [short]
  have hpl : plL (0 :: r) = [] := by simp [plL]
  have hpb : plB (0 :: r) = false := by simp [plB]
  exact callS_T E_ok mixed lawSp_ok law1 law2 law3 law4 law_k rfl (ts := [(22, .w (.tup [.s (1 :: a), .s (endL (b))]) (fun h => h)), (28, .w (.tup [.s (1 :: a), .s (endL (b))]) (fun h => h)), (33, .w (.tup [.s ([]), .b false]) (fun h => h)), (38, .w (.tup [.s ([]), .b false]) (fun h => h)), (49, .v (.i .u64 (.ofNat m))), (52, .v (.b false)), (56, .v (.b false)), (61, .v (.b false)), (70, .w (.s (1 :: 0 :: r)) (fun h => h)), (72, .w (.s (1 :: 0 :: r)) (fun h => h)), (73, .v (.b false)), (77, .w (.s (ekR m)) (fun h => h)), (79, .w (.s (ekR m)) (fun h => h)), (80, .v (.b false)), (84, .w (.s (1 :: 0 :: r)) (fun h => h)), (85, .w (.tup [.s (0 :: r), .b true]) (fun h => h)), (105, .v (.b true)), (113, .v (.b true)), (118, .w (.s [1]) (fun h => h)), (119, .v (.b false)), (123, .v (.b false)), (134, .w (.b true) (fun h => h))]) 1 noTb_ok
    (tld (q := (toldF lawSp short (.fn 13) [.s a, .s (b)] h = some (.tup [.s (1 :: a), .s (endL (b))], h)) ∧ (toldF lawSp short (.fn 14) [.s a, .s (b)] h = some (.tup [.s (1 :: a), .s (endL (b))], h)) ∧ (toldF lawSp short (.fn 15) [.s (0 :: r)] h = some (.tup [.s ([]), .b false], h)) ∧ (toldF lawSp short (.fn 16) [.s (0 :: r)] h = some (.tup [.s ([]), .b false], h)) ∧ (some (AV.i .u64 (numI a (b))) = some (.i .u64 (.ofNat m))) ∧ (some (AV.b (bNot (eqN (1 :: a) (1 :: a)))) = some (.b false)) ∧ (some (AV.b (bNot (eqN (endL (b)) (endL (b))))) = some (.b false)) ∧ (some (AV.b (bNot (eqN ([]) ([])))) = some (.b false)) ∧ (toldF lawSp short (.fn 17) [.s (0 :: r)] h = some (.s (1 :: 0 :: r), h)) ∧ (toldF lawSp short (.fn 18) [.s (0 :: r)] h = some (.s (1 :: 0 :: r), h)) ∧ (some (AV.b (bNot (eqN (1 :: 0 :: r) (1 :: 0 :: r)))) = some (.b false)) ∧ (toldF lawSp short (.fn 19) [.i .u64 (.ofNat m)] h = some (.s (ekR m), h)) ∧ (toldF lawSp short (.fn 20) [.i .u64 (.ofNat m)] h = some (.s (ekR m), h)) ∧ (some (AV.b (bNot (eqN (ekR m) (ekR m)))) = some (.b false)) ∧ (toldF lawSp short (.fn 17) [.s (0 :: r)] h = some (.s (1 :: 0 :: r), h)) ∧ (toldF lawSp short (.fn 15) [.s (1 :: 0 :: r)] h = some (.tup [.s (0 :: r), .b true], h)) ∧ (some (AV.b (bNot (eqN (0 :: r) []))) = some (.b true)) ∧ (some (AV.b (eqN (0 :: r) (0 :: r))) = some (.b true)) ∧ (toldF lawSp short (.fn 17) [.s []] h = some (.s [1], h)) ∧ (some (AV.b (eqN (0 :: r) [1])) = some (.b false)) ∧ (some (AV.b (bNot (lessN (0 :: r) (1 :: a)))) = some (.b false)) ∧ (toldF lawSp short (.fn 8) [] h = some (.b true, h)) ∧ True) (by kernel_rfl)
      ⟨toldF_at (rfl) (short2.2 ⟨ha, hb⟩),
        toldF_at (rfl) (short2.2 ⟨ha, hb⟩),
        toldF_at (by simp [lawSp, hpl, hpb]) (short1.2 hk),
        toldF_at (by simp [lawSp, hpl, hpb]) (short1.2 hk),
        by rw [hm],
        q_ne,
        q_ne,
        q_ne,
        toldF_at (rfl) (short1.2 hk),
        toldF_at (rfl) (short1.2 hk),
        q_ne,
        toldF_at (rfl) (shortI),
        toldF_at (rfl) (shortI),
        q_ne,
        toldF_at (rfl) (short1.2 hk),
        toldF_at (by simp [lawSp, plL, plB]) (short1.2 (by first | (simp; done) | (simp at h0 ⊢; omega))),
        q_b (by rw [bNot_eq, eqN_eq]; simp),
        q_eq,
        toldF_at (rfl) (short1.2 (by simp)),
        q_b (by rw [eqN_eq]; simp),
        q_b (by rw [bNot_eq]; simp [lessN]),
        toldF_at (rfl) (shortN), trivial⟩) (by kernel_rfl)

theorem run_C2 (c : Nat) (a b r : List Nat) (hk : List.length (α := Nat) (c :: r) ≤ 1048576) (ha : a.length ≤ 1048576) (hb : List.length (α := Nat) (b) ≤ 1048576) (hc : 2 ≤ c) : CallS E M (.fn 6) [.s (c :: r), .s a, .s (b)] h (.b true) h := by
  obtain ⟨m, hm⟩ := num_nat a (b)
  have h0 := hk
  have hk := Nat.le_trans hk (show 1048576 ≤ 1099511627776 by decide)
  have ha := Nat.le_trans ha (show 1048576 ≤ 1099511627776 by decide)
  have hb := Nat.le_trans hb (show 1048576 ≤ 1099511627776 by decide)
  have shortI : short [.i .u64 (.ofNat m)] := by simp [short, shortA]
  have shortN : short [] := by simp [short]
  have hpl : plL (c :: r) = [] := by simp [plL, show c ≠ 1 by omega]
  have hpb : plB (c :: r) = false := by simp [plB, show c ≠ 1 by omega]
  exact callS_T E_ok mixed lawSp_ok law1 law2 law3 law4 law_k rfl (ts := [(22, .w (.tup [.s (1 :: a), .s (endL (b))]) (fun h => h)), (28, .w (.tup [.s (1 :: a), .s (endL (b))]) (fun h => h)), (33, .w (.tup [.s ([]), .b false]) (fun h => h)), (38, .w (.tup [.s ([]), .b false]) (fun h => h)), (49, .v (.i .u64 (.ofNat m))), (52, .v (.b false)), (56, .v (.b false)), (61, .v (.b false)), (70, .w (.s (1 :: c :: r)) (fun h => h)), (72, .w (.s (1 :: c :: r)) (fun h => h)), (73, .v (.b false)), (77, .w (.s (ekR m)) (fun h => h)), (79, .w (.s (ekR m)) (fun h => h)), (80, .v (.b false)), (84, .w (.s (1 :: c :: r)) (fun h => h)), (85, .w (.tup [.s (c :: r), .b true]) (fun h => h)), (105, .v (.b true)), (113, .v (.b true)), (118, .w (.s [1]) (fun h => h)), (119, .v (.b false)), (123, .v (.b true)), (127, .v (.b false)), (134, .w (.b true) (fun h => h))]) 1 noTb_ok
    (tld (q := (toldF lawSp short (.fn 13) [.s a, .s (b)] h = some (.tup [.s (1 :: a), .s (endL (b))], h)) ∧ (toldF lawSp short (.fn 14) [.s a, .s (b)] h = some (.tup [.s (1 :: a), .s (endL (b))], h)) ∧ (toldF lawSp short (.fn 15) [.s (c :: r)] h = some (.tup [.s ([]), .b false], h)) ∧ (toldF lawSp short (.fn 16) [.s (c :: r)] h = some (.tup [.s ([]), .b false], h)) ∧ (some (AV.i .u64 (numI a (b))) = some (.i .u64 (.ofNat m))) ∧ (some (AV.b (bNot (eqN (1 :: a) (1 :: a)))) = some (.b false)) ∧ (some (AV.b (bNot (eqN (endL (b)) (endL (b))))) = some (.b false)) ∧ (some (AV.b (bNot (eqN ([]) ([])))) = some (.b false)) ∧ (toldF lawSp short (.fn 17) [.s (c :: r)] h = some (.s (1 :: c :: r), h)) ∧ (toldF lawSp short (.fn 18) [.s (c :: r)] h = some (.s (1 :: c :: r), h)) ∧ (some (AV.b (bNot (eqN (1 :: c :: r) (1 :: c :: r)))) = some (.b false)) ∧ (toldF lawSp short (.fn 19) [.i .u64 (.ofNat m)] h = some (.s (ekR m), h)) ∧ (toldF lawSp short (.fn 20) [.i .u64 (.ofNat m)] h = some (.s (ekR m), h)) ∧ (some (AV.b (bNot (eqN (ekR m) (ekR m)))) = some (.b false)) ∧ (toldF lawSp short (.fn 17) [.s (c :: r)] h = some (.s (1 :: c :: r), h)) ∧ (toldF lawSp short (.fn 15) [.s (1 :: c :: r)] h = some (.tup [.s (c :: r), .b true], h)) ∧ (some (AV.b (bNot (eqN (c :: r) []))) = some (.b true)) ∧ (some (AV.b (eqN (c :: r) (c :: r))) = some (.b true)) ∧ (toldF lawSp short (.fn 17) [.s []] h = some (.s [1], h)) ∧ (some (AV.b (eqN (c :: r) [1])) = some (.b false)) ∧ (some (AV.b (bNot (lessN (c :: r) (1 :: a)))) = some (.b true)) ∧ (some (AV.b (lessN (c :: r) (endL (b)))) = some (.b false)) ∧ (toldF lawSp short (.fn 8) [] h = some (.b true, h)) ∧ True) (by kernel_rfl)
      ⟨toldF_at (rfl) (short2.2 ⟨ha, hb⟩),
        toldF_at (rfl) (short2.2 ⟨ha, hb⟩),
        toldF_at (by simp [lawSp, hpl, hpb]) (short1.2 hk),
        toldF_at (by simp [lawSp, hpl, hpb]) (short1.2 hk),
        by rw [hm],
        q_ne,
        q_ne,
        q_ne,
        toldF_at (rfl) (short1.2 hk),
        toldF_at (rfl) (short1.2 hk),
        q_ne,
        toldF_at (rfl) (shortI),
        toldF_at (rfl) (shortI),
        q_ne,
        toldF_at (rfl) (short1.2 hk),
        toldF_at (by simp [lawSp, plL, plB]) (short1.2 (by first | (simp; done) | (simp at h0 ⊢; omega))),
        q_b (by rw [bNot_eq, eqN_eq]; simp),
        q_eq,
        toldF_at (rfl) (short1.2 (by simp)),
        q_b (by rw [eqN_eq]; simp; omega),
        q_b (by rw [bNot_eq]; simp [lessN]; omega),
        q_b (by cases b <;> simp [endL, lessN] <;> omega),
        toldF_at (rfl) (shortN), trivial⟩) (by kernel_rfl)

theorem run_D1 (d : Nat) (a r : List Nat) (b : List Nat) (hk : List.length (α := Nat) (1 :: d :: r) ≤ 1048576) (ha : a.length ≤ 1048576) (hb : List.length (α := Nat) (b) ≤ 1048576) (hG : lessN (d :: r) a = true) : CallS E M (.fn 6) [.s (1 :: d :: r), .s a, .s (b)] h (.b true) h := by
  obtain ⟨m, hm⟩ := num_nat a (b)
  have h0 := hk
  have hk := Nat.le_trans hk (show 1048576 ≤ 1099511627776 by decide)
  have ha := Nat.le_trans ha (show 1048576 ≤ 1099511627776 by decide)
  have hb := Nat.le_trans hb (show 1048576 ≤ 1099511627776 by decide)
  have shortI : short [.i .u64 (.ofNat m)] := by simp [short, shortA]
  have shortN : short [] := by simp [short]
  have hpl : plL (1 :: d :: r) = d :: r := by simp [plL]
  have hpb : plB (1 :: d :: r) = true := by simp [plB]
  exact callS_T E_ok mixed lawSp_ok law1 law2 law3 law4 law_k rfl (ts := [(22, .w (.tup [.s (1 :: a), .s (endL (b))]) (fun h => h)), (28, .w (.tup [.s (1 :: a), .s (endL (b))]) (fun h => h)), (33, .w (.tup [.s (d :: r), .b true]) (fun h => h)), (38, .w (.tup [.s (d :: r), .b true]) (fun h => h)), (49, .v (.i .u64 (.ofNat m))), (52, .v (.b false)), (56, .v (.b false)), (61, .v (.b false)), (70, .w (.s (1 :: 1 :: d :: r)) (fun h => h)), (72, .w (.s (1 :: 1 :: d :: r)) (fun h => h)), (73, .v (.b false)), (77, .w (.s (ekR m)) (fun h => h)), (79, .w (.s (ekR m)) (fun h => h)), (80, .v (.b false)), (84, .w (.s (1 :: 1 :: d :: r)) (fun h => h)), (85, .w (.tup [.s (1 :: d :: r), .b true]) (fun h => h)), (92, .v (.b false)), (105, .v (.b true)), (113, .v (.b true)), (118, .w (.s [1]) (fun h => h)), (119, .v (.b false)), (123, .v (.b false)), (134, .w (.b true) (fun h => h))]) 1 noTb_ok
    (tld (q := (toldF lawSp short (.fn 13) [.s a, .s (b)] h = some (.tup [.s (1 :: a), .s (endL (b))], h)) ∧ (toldF lawSp short (.fn 14) [.s a, .s (b)] h = some (.tup [.s (1 :: a), .s (endL (b))], h)) ∧ (toldF lawSp short (.fn 15) [.s (1 :: d :: r)] h = some (.tup [.s (d :: r), .b true], h)) ∧ (toldF lawSp short (.fn 16) [.s (1 :: d :: r)] h = some (.tup [.s (d :: r), .b true], h)) ∧ (some (AV.i .u64 (numI a (b))) = some (.i .u64 (.ofNat m))) ∧ (some (AV.b (bNot (eqN (1 :: a) (1 :: a)))) = some (.b false)) ∧ (some (AV.b (bNot (eqN (endL (b)) (endL (b))))) = some (.b false)) ∧ (some (AV.b (bNot (eqN (d :: r) (d :: r)))) = some (.b false)) ∧ (toldF lawSp short (.fn 17) [.s (1 :: d :: r)] h = some (.s (1 :: 1 :: d :: r), h)) ∧ (toldF lawSp short (.fn 18) [.s (1 :: d :: r)] h = some (.s (1 :: 1 :: d :: r), h)) ∧ (some (AV.b (bNot (eqN (1 :: 1 :: d :: r) (1 :: 1 :: d :: r)))) = some (.b false)) ∧ (toldF lawSp short (.fn 19) [.i .u64 (.ofNat m)] h = some (.s (ekR m), h)) ∧ (toldF lawSp short (.fn 20) [.i .u64 (.ofNat m)] h = some (.s (ekR m), h)) ∧ (some (AV.b (bNot (eqN (ekR m) (ekR m)))) = some (.b false)) ∧ (toldF lawSp short (.fn 17) [.s (1 :: d :: r)] h = some (.s (1 :: 1 :: d :: r), h)) ∧ (toldF lawSp short (.fn 15) [.s (1 :: 1 :: d :: r)] h = some (.tup [.s (1 :: d :: r), .b true], h)) ∧ (some (AV.b (bNot (lessN (d :: r) a))) = some (.b false)) ∧ (some (AV.b (bNot (eqN (1 :: d :: r) []))) = some (.b true)) ∧ (some (AV.b (eqN (1 :: d :: r) (1 :: d :: r))) = some (.b true)) ∧ (toldF lawSp short (.fn 17) [.s []] h = some (.s [1], h)) ∧ (some (AV.b (eqN (1 :: d :: r) [1])) = some (.b false)) ∧ (some (AV.b (bNot (lessN (1 :: d :: r) (1 :: a)))) = some (.b false)) ∧ (toldF lawSp short (.fn 8) [] h = some (.b true, h)) ∧ True) (by kernel_rfl)
      ⟨toldF_at (rfl) (short2.2 ⟨ha, hb⟩),
        toldF_at (rfl) (short2.2 ⟨ha, hb⟩),
        toldF_at (by simp [lawSp, hpl, hpb]) (short1.2 hk),
        toldF_at (by simp [lawSp, hpl, hpb]) (short1.2 hk),
        by rw [hm],
        q_ne,
        q_ne,
        q_ne,
        toldF_at (rfl) (short1.2 hk),
        toldF_at (rfl) (short1.2 hk),
        q_ne,
        toldF_at (rfl) (shortI),
        toldF_at (rfl) (shortI),
        q_ne,
        toldF_at (rfl) (short1.2 hk),
        toldF_at (by simp [lawSp, plL, plB]) (short1.2 (by first | (simp; done) | (simp at h0 ⊢; omega))),
        q_b (by rw [bNot_eq]; simp [hG]),
        q_b (by rw [bNot_eq, eqN_eq]; simp),
        q_eq,
        toldF_at (rfl) (short1.2 (by simp)),
        q_b (by rw [eqN_eq]; simp),
        q_b (by rw [bNot_eq]; rw [show lessN (1 :: d :: r) (1 :: a) = lessN (d :: r) a by simp [lessN], hG]; rfl),
        toldF_at (rfl) (shortN), trivial⟩) (by kernel_rfl)

theorem run_D2 (d : Nat) (a r : List Nat) (hk : List.length (α := Nat) (1 :: d :: r) ≤ 1048576) (ha : a.length ≤ 1048576) (hb : List.length (α := Nat) ([]) ≤ 1048576) (hG : lessN (d :: r) a = false) : CallS E M (.fn 6) [.s (1 :: d :: r), .s a, .s ([])] h (.b true) h := by
  obtain ⟨m, hm⟩ := num_nat a ([])
  have h0 := hk
  have hk := Nat.le_trans hk (show 1048576 ≤ 1099511627776 by decide)
  have ha := Nat.le_trans ha (show 1048576 ≤ 1099511627776 by decide)
  have hb := Nat.le_trans hb (show 1048576 ≤ 1099511627776 by decide)
  have shortI : short [.i .u64 (.ofNat m)] := by simp [short, shortA]
  have shortN : short [] := by simp [short]
  have hpl : plL (1 :: d :: r) = d :: r := by simp [plL]
  have hpb : plB (1 :: d :: r) = true := by simp [plB]
  exact callS_T E_ok mixed lawSp_ok law1 law2 law3 law4 law_k rfl (ts := [(22, .w (.tup [.s (1 :: a), .s (endL ([]))]) (fun h => h)), (28, .w (.tup [.s (1 :: a), .s (endL ([]))]) (fun h => h)), (33, .w (.tup [.s (d :: r), .b true]) (fun h => h)), (38, .w (.tup [.s (d :: r), .b true]) (fun h => h)), (49, .v (.i .u64 (.ofNat m))), (52, .v (.b false)), (56, .v (.b false)), (61, .v (.b false)), (70, .w (.s (1 :: 1 :: d :: r)) (fun h => h)), (72, .w (.s (1 :: 1 :: d :: r)) (fun h => h)), (73, .v (.b false)), (77, .w (.s (ekR m)) (fun h => h)), (79, .w (.s (ekR m)) (fun h => h)), (80, .v (.b false)), (84, .w (.s (1 :: 1 :: d :: r)) (fun h => h)), (85, .w (.tup [.s (1 :: d :: r), .b true]) (fun h => h)), (92, .v (.b true)), (96, .v (.b true)), (105, .v (.b true)), (113, .v (.b true)), (118, .w (.s [1]) (fun h => h)), (119, .v (.b false)), (123, .v (.b true)), (127, .v (.b true)), (134, .w (.b true) (fun h => h))]) 1 noTb_ok
    (tld (q := (toldF lawSp short (.fn 13) [.s a, .s ([])] h = some (.tup [.s (1 :: a), .s (endL ([]))], h)) ∧ (toldF lawSp short (.fn 14) [.s a, .s ([])] h = some (.tup [.s (1 :: a), .s (endL ([]))], h)) ∧ (toldF lawSp short (.fn 15) [.s (1 :: d :: r)] h = some (.tup [.s (d :: r), .b true], h)) ∧ (toldF lawSp short (.fn 16) [.s (1 :: d :: r)] h = some (.tup [.s (d :: r), .b true], h)) ∧ (some (AV.i .u64 (numI a ([]))) = some (.i .u64 (.ofNat m))) ∧ (some (AV.b (bNot (eqN (1 :: a) (1 :: a)))) = some (.b false)) ∧ (some (AV.b (bNot (eqN (endL ([])) (endL ([]))))) = some (.b false)) ∧ (some (AV.b (bNot (eqN (d :: r) (d :: r)))) = some (.b false)) ∧ (toldF lawSp short (.fn 17) [.s (1 :: d :: r)] h = some (.s (1 :: 1 :: d :: r), h)) ∧ (toldF lawSp short (.fn 18) [.s (1 :: d :: r)] h = some (.s (1 :: 1 :: d :: r), h)) ∧ (some (AV.b (bNot (eqN (1 :: 1 :: d :: r) (1 :: 1 :: d :: r)))) = some (.b false)) ∧ (toldF lawSp short (.fn 19) [.i .u64 (.ofNat m)] h = some (.s (ekR m), h)) ∧ (toldF lawSp short (.fn 20) [.i .u64 (.ofNat m)] h = some (.s (ekR m), h)) ∧ (some (AV.b (bNot (eqN (ekR m) (ekR m)))) = some (.b false)) ∧ (toldF lawSp short (.fn 17) [.s (1 :: d :: r)] h = some (.s (1 :: 1 :: d :: r), h)) ∧ (toldF lawSp short (.fn 15) [.s (1 :: 1 :: d :: r)] h = some (.tup [.s (1 :: d :: r), .b true], h)) ∧ (some (AV.b (bNot (lessN (d :: r) a))) = some (.b true)) ∧ (some (AV.b (eqN ([]) [])) = some (.b true)) ∧ (some (AV.b (bNot (eqN (1 :: d :: r) []))) = some (.b true)) ∧ (some (AV.b (eqN (1 :: d :: r) (1 :: d :: r))) = some (.b true)) ∧ (toldF lawSp short (.fn 17) [.s []] h = some (.s [1], h)) ∧ (some (AV.b (eqN (1 :: d :: r) [1])) = some (.b false)) ∧ (some (AV.b (bNot (lessN (1 :: d :: r) (1 :: a)))) = some (.b true)) ∧ (some (AV.b (lessN (1 :: d :: r) (endL ([])))) = some (.b true)) ∧ (toldF lawSp short (.fn 8) [] h = some (.b true, h)) ∧ True) (by kernel_rfl)
      ⟨toldF_at (rfl) (short2.2 ⟨ha, hb⟩),
        toldF_at (rfl) (short2.2 ⟨ha, hb⟩),
        toldF_at (by simp [lawSp, hpl, hpb]) (short1.2 hk),
        toldF_at (by simp [lawSp, hpl, hpb]) (short1.2 hk),
        by rw [hm],
        q_ne,
        q_ne,
        q_ne,
        toldF_at (rfl) (short1.2 hk),
        toldF_at (rfl) (short1.2 hk),
        q_ne,
        toldF_at (rfl) (shortI),
        toldF_at (rfl) (shortI),
        q_ne,
        toldF_at (rfl) (short1.2 hk),
        toldF_at (by simp [lawSp, plL, plB]) (short1.2 (by first | (simp; done) | (simp at h0 ⊢; omega))),
        q_b (by rw [bNot_eq]; simp [hG]),
        q_b (by rw [eqN_eq]; simp),
        q_b (by rw [bNot_eq, eqN_eq]; simp),
        q_eq,
        toldF_at (rfl) (short1.2 (by simp)),
        q_b (by rw [eqN_eq]; simp),
        q_b (by rw [bNot_eq]; rw [show lessN (1 :: d :: r) (1 :: a) = lessN (d :: r) a by simp [lessN], hG]; rfl),
        q_b (by simp [endL, lessN]),
        toldF_at (rfl) (shortN), trivial⟩) (by kernel_rfl)

theorem run_D3 (d : Nat) (a r : List Nat) (e : Nat) (b : List Nat) (hk : List.length (α := Nat) (1 :: d :: r) ≤ 1048576) (ha : a.length ≤ 1048576) (hb : List.length (α := Nat) (e :: b) ≤ 1048576) (hG : lessN (d :: r) a = false) (hL : lessN (d :: r) (e :: b) = true) : CallS E M (.fn 6) [.s (1 :: d :: r), .s a, .s (e :: b)] h (.b true) h := by
  obtain ⟨m, hm⟩ := num_nat a (e :: b)
  have h0 := hk
  have hk := Nat.le_trans hk (show 1048576 ≤ 1099511627776 by decide)
  have ha := Nat.le_trans ha (show 1048576 ≤ 1099511627776 by decide)
  have hb := Nat.le_trans hb (show 1048576 ≤ 1099511627776 by decide)
  have shortI : short [.i .u64 (.ofNat m)] := by simp [short, shortA]
  have shortN : short [] := by simp [short]
  have hpl : plL (1 :: d :: r) = d :: r := by simp [plL]
  have hpb : plB (1 :: d :: r) = true := by simp [plB]
  exact callS_T E_ok mixed lawSp_ok law1 law2 law3 law4 law_k rfl (ts := [(22, .w (.tup [.s (1 :: a), .s (endL (e :: b))]) (fun h => h)), (28, .w (.tup [.s (1 :: a), .s (endL (e :: b))]) (fun h => h)), (33, .w (.tup [.s (d :: r), .b true]) (fun h => h)), (38, .w (.tup [.s (d :: r), .b true]) (fun h => h)), (49, .v (.i .u64 (.ofNat m))), (52, .v (.b false)), (56, .v (.b false)), (61, .v (.b false)), (70, .w (.s (1 :: 1 :: d :: r)) (fun h => h)), (72, .w (.s (1 :: 1 :: d :: r)) (fun h => h)), (73, .v (.b false)), (77, .w (.s (ekR m)) (fun h => h)), (79, .w (.s (ekR m)) (fun h => h)), (80, .v (.b false)), (84, .w (.s (1 :: 1 :: d :: r)) (fun h => h)), (85, .w (.tup [.s (1 :: d :: r), .b true]) (fun h => h)), (92, .v (.b true)), (96, .v (.b false)), (100, .v (.b true)), (105, .v (.b true)), (113, .v (.b true)), (118, .w (.s [1]) (fun h => h)), (119, .v (.b false)), (123, .v (.b true)), (127, .v (.b true)), (134, .w (.b true) (fun h => h))]) 1 noTb_ok
    (tld (q := (toldF lawSp short (.fn 13) [.s a, .s (e :: b)] h = some (.tup [.s (1 :: a), .s (endL (e :: b))], h)) ∧ (toldF lawSp short (.fn 14) [.s a, .s (e :: b)] h = some (.tup [.s (1 :: a), .s (endL (e :: b))], h)) ∧ (toldF lawSp short (.fn 15) [.s (1 :: d :: r)] h = some (.tup [.s (d :: r), .b true], h)) ∧ (toldF lawSp short (.fn 16) [.s (1 :: d :: r)] h = some (.tup [.s (d :: r), .b true], h)) ∧ (some (AV.i .u64 (numI a (e :: b))) = some (.i .u64 (.ofNat m))) ∧ (some (AV.b (bNot (eqN (1 :: a) (1 :: a)))) = some (.b false)) ∧ (some (AV.b (bNot (eqN (endL (e :: b)) (endL (e :: b))))) = some (.b false)) ∧ (some (AV.b (bNot (eqN (d :: r) (d :: r)))) = some (.b false)) ∧ (toldF lawSp short (.fn 17) [.s (1 :: d :: r)] h = some (.s (1 :: 1 :: d :: r), h)) ∧ (toldF lawSp short (.fn 18) [.s (1 :: d :: r)] h = some (.s (1 :: 1 :: d :: r), h)) ∧ (some (AV.b (bNot (eqN (1 :: 1 :: d :: r) (1 :: 1 :: d :: r)))) = some (.b false)) ∧ (toldF lawSp short (.fn 19) [.i .u64 (.ofNat m)] h = some (.s (ekR m), h)) ∧ (toldF lawSp short (.fn 20) [.i .u64 (.ofNat m)] h = some (.s (ekR m), h)) ∧ (some (AV.b (bNot (eqN (ekR m) (ekR m)))) = some (.b false)) ∧ (toldF lawSp short (.fn 17) [.s (1 :: d :: r)] h = some (.s (1 :: 1 :: d :: r), h)) ∧ (toldF lawSp short (.fn 15) [.s (1 :: 1 :: d :: r)] h = some (.tup [.s (1 :: d :: r), .b true], h)) ∧ (some (AV.b (bNot (lessN (d :: r) a))) = some (.b true)) ∧ (some (AV.b (eqN (e :: b) [])) = some (.b false)) ∧ (some (AV.b (lessN (d :: r) (e :: b))) = some (.b true)) ∧ (some (AV.b (bNot (eqN (1 :: d :: r) []))) = some (.b true)) ∧ (some (AV.b (eqN (1 :: d :: r) (1 :: d :: r))) = some (.b true)) ∧ (toldF lawSp short (.fn 17) [.s []] h = some (.s [1], h)) ∧ (some (AV.b (eqN (1 :: d :: r) [1])) = some (.b false)) ∧ (some (AV.b (bNot (lessN (1 :: d :: r) (1 :: a)))) = some (.b true)) ∧ (some (AV.b (lessN (1 :: d :: r) (endL (e :: b)))) = some (.b true)) ∧ (toldF lawSp short (.fn 8) [] h = some (.b true, h)) ∧ True) (by kernel_rfl)
      ⟨toldF_at (rfl) (short2.2 ⟨ha, hb⟩),
        toldF_at (rfl) (short2.2 ⟨ha, hb⟩),
        toldF_at (by simp [lawSp, hpl, hpb]) (short1.2 hk),
        toldF_at (by simp [lawSp, hpl, hpb]) (short1.2 hk),
        by rw [hm],
        q_ne,
        q_ne,
        q_ne,
        toldF_at (rfl) (short1.2 hk),
        toldF_at (rfl) (short1.2 hk),
        q_ne,
        toldF_at (rfl) (shortI),
        toldF_at (rfl) (shortI),
        q_ne,
        toldF_at (rfl) (short1.2 hk),
        toldF_at (by simp [lawSp, plL, plB]) (short1.2 (by first | (simp; done) | (simp at h0 ⊢; omega))),
        q_b (by rw [bNot_eq]; simp [hG]),
        q_b (by rw [eqN_eq]; simp),
        q_b hL,
        q_b (by rw [bNot_eq, eqN_eq]; simp),
        q_eq,
        toldF_at (rfl) (short1.2 (by simp)),
        q_b (by rw [eqN_eq]; simp),
        q_b (by rw [bNot_eq]; rw [show lessN (1 :: d :: r) (1 :: a) = lessN (d :: r) a by simp [lessN], hG]; rfl),
        q_b (by rw [show lessN (1 :: d :: r) (endL (e :: b)) = lessN (d :: r) (e :: b) by simp [endL, lessN], hL]),
        toldF_at (rfl) (shortN), trivial⟩) (by kernel_rfl)

theorem run_D4 (d : Nat) (a r : List Nat) (e : Nat) (b : List Nat) (hk : List.length (α := Nat) (1 :: d :: r) ≤ 1048576) (ha : a.length ≤ 1048576) (hb : List.length (α := Nat) (e :: b) ≤ 1048576) (hG : lessN (d :: r) a = false) (hL : lessN (d :: r) (e :: b) = false) : CallS E M (.fn 6) [.s (1 :: d :: r), .s a, .s (e :: b)] h (.b true) h := by
  obtain ⟨m, hm⟩ := num_nat a (e :: b)
  have h0 := hk
  have hk := Nat.le_trans hk (show 1048576 ≤ 1099511627776 by decide)
  have ha := Nat.le_trans ha (show 1048576 ≤ 1099511627776 by decide)
  have hb := Nat.le_trans hb (show 1048576 ≤ 1099511627776 by decide)
  have shortI : short [.i .u64 (.ofNat m)] := by simp [short, shortA]
  have shortN : short [] := by simp [short]
  have hpl : plL (1 :: d :: r) = d :: r := by simp [plL]
  have hpb : plB (1 :: d :: r) = true := by simp [plB]
  exact callS_T E_ok mixed lawSp_ok law1 law2 law3 law4 law_k rfl (ts := [(22, .w (.tup [.s (1 :: a), .s (endL (e :: b))]) (fun h => h)), (28, .w (.tup [.s (1 :: a), .s (endL (e :: b))]) (fun h => h)), (33, .w (.tup [.s (d :: r), .b true]) (fun h => h)), (38, .w (.tup [.s (d :: r), .b true]) (fun h => h)), (49, .v (.i .u64 (.ofNat m))), (52, .v (.b false)), (56, .v (.b false)), (61, .v (.b false)), (70, .w (.s (1 :: 1 :: d :: r)) (fun h => h)), (72, .w (.s (1 :: 1 :: d :: r)) (fun h => h)), (73, .v (.b false)), (77, .w (.s (ekR m)) (fun h => h)), (79, .w (.s (ekR m)) (fun h => h)), (80, .v (.b false)), (84, .w (.s (1 :: 1 :: d :: r)) (fun h => h)), (85, .w (.tup [.s (1 :: d :: r), .b true]) (fun h => h)), (92, .v (.b true)), (96, .v (.b false)), (100, .v (.b false)), (105, .v (.b true)), (113, .v (.b true)), (118, .w (.s [1]) (fun h => h)), (119, .v (.b false)), (123, .v (.b true)), (127, .v (.b false)), (134, .w (.b true) (fun h => h))]) 1 noTb_ok
    (tld (q := (toldF lawSp short (.fn 13) [.s a, .s (e :: b)] h = some (.tup [.s (1 :: a), .s (endL (e :: b))], h)) ∧ (toldF lawSp short (.fn 14) [.s a, .s (e :: b)] h = some (.tup [.s (1 :: a), .s (endL (e :: b))], h)) ∧ (toldF lawSp short (.fn 15) [.s (1 :: d :: r)] h = some (.tup [.s (d :: r), .b true], h)) ∧ (toldF lawSp short (.fn 16) [.s (1 :: d :: r)] h = some (.tup [.s (d :: r), .b true], h)) ∧ (some (AV.i .u64 (numI a (e :: b))) = some (.i .u64 (.ofNat m))) ∧ (some (AV.b (bNot (eqN (1 :: a) (1 :: a)))) = some (.b false)) ∧ (some (AV.b (bNot (eqN (endL (e :: b)) (endL (e :: b))))) = some (.b false)) ∧ (some (AV.b (bNot (eqN (d :: r) (d :: r)))) = some (.b false)) ∧ (toldF lawSp short (.fn 17) [.s (1 :: d :: r)] h = some (.s (1 :: 1 :: d :: r), h)) ∧ (toldF lawSp short (.fn 18) [.s (1 :: d :: r)] h = some (.s (1 :: 1 :: d :: r), h)) ∧ (some (AV.b (bNot (eqN (1 :: 1 :: d :: r) (1 :: 1 :: d :: r)))) = some (.b false)) ∧ (toldF lawSp short (.fn 19) [.i .u64 (.ofNat m)] h = some (.s (ekR m), h)) ∧ (toldF lawSp short (.fn 20) [.i .u64 (.ofNat m)] h = some (.s (ekR m), h)) ∧ (some (AV.b (bNot (eqN (ekR m) (ekR m)))) = some (.b false)) ∧ (toldF lawSp short (.fn 17) [.s (1 :: d :: r)] h = some (.s (1 :: 1 :: d :: r), h)) ∧ (toldF lawSp short (.fn 15) [.s (1 :: 1 :: d :: r)] h = some (.tup [.s (1 :: d :: r), .b true], h)) ∧ (some (AV.b (bNot (lessN (d :: r) a))) = some (.b true)) ∧ (some (AV.b (eqN (e :: b) [])) = some (.b false)) ∧ (some (AV.b (lessN (d :: r) (e :: b))) = some (.b false)) ∧ (some (AV.b (bNot (eqN (1 :: d :: r) []))) = some (.b true)) ∧ (some (AV.b (eqN (1 :: d :: r) (1 :: d :: r))) = some (.b true)) ∧ (toldF lawSp short (.fn 17) [.s []] h = some (.s [1], h)) ∧ (some (AV.b (eqN (1 :: d :: r) [1])) = some (.b false)) ∧ (some (AV.b (bNot (lessN (1 :: d :: r) (1 :: a)))) = some (.b true)) ∧ (some (AV.b (lessN (1 :: d :: r) (endL (e :: b)))) = some (.b false)) ∧ (toldF lawSp short (.fn 8) [] h = some (.b true, h)) ∧ True) (by kernel_rfl)
      ⟨toldF_at (rfl) (short2.2 ⟨ha, hb⟩),
        toldF_at (rfl) (short2.2 ⟨ha, hb⟩),
        toldF_at (by simp [lawSp, hpl, hpb]) (short1.2 hk),
        toldF_at (by simp [lawSp, hpl, hpb]) (short1.2 hk),
        by rw [hm],
        q_ne,
        q_ne,
        q_ne,
        toldF_at (rfl) (short1.2 hk),
        toldF_at (rfl) (short1.2 hk),
        q_ne,
        toldF_at (rfl) (shortI),
        toldF_at (rfl) (shortI),
        q_ne,
        toldF_at (rfl) (short1.2 hk),
        toldF_at (by simp [lawSp, plL, plB]) (short1.2 (by first | (simp; done) | (simp at h0 ⊢; omega))),
        q_b (by rw [bNot_eq]; simp [hG]),
        q_b (by rw [eqN_eq]; simp),
        q_b hL,
        q_b (by rw [bNot_eq, eqN_eq]; simp),
        q_eq,
        toldF_at (rfl) (short1.2 (by simp)),
        q_b (by rw [eqN_eq]; simp),
        q_b (by rw [bNot_eq]; rw [show lessN (1 :: d :: r) (1 :: a) = lessN (d :: r) a by simp [lessN], hG]; rfl),
        q_b (by rw [show lessN (1 :: d :: r) (endL (e :: b)) = lessN (d :: r) (e :: b) by simp [endL, lessN], hL]),
        toldF_at (rfl) (shortN), trivial⟩) (by kernel_rfl)

theorem keys_run (k a b : List Nat) (hk : k.length ≤ 1048576) (ha : a.length ≤ 1048576) (hb : b.length ≤ 1048576) : CallS E M (.fn 6) [.s k, .s a, .s b] h (.b true) h := by
  match k with
  | [] => exact run_A a b hk ha hb
  | [0] => exact run_C0 a b [] hk ha hb
  | [1] => exact run_B a b hk ha hb
  | (c + 2) :: r => exact run_C2 (c + 2) a b r hk ha hb (by omega)
  | 0 :: d :: r => exact run_C0 a b (d :: r) hk ha hb
  | 1 :: d :: r =>
    cases hG : lessN (d :: r) a with
    | true => exact run_D1 d a r b hk ha hb hG
    | false =>
      match b with
      | [] => exact run_D2 d a r hk ha hb hG
      | e :: b =>
        cases hL : lessN (d :: r) (e :: b) with
        | true => exact run_D3 d a r e b hk ha hb hG hL
        | false => exact run_D4 d a r e b hk ha hb hG hL
end Go.Proofs.YtfaemheimmndgaaGreatDoor
