/- Appends. Part of a verified reckoner of runs: no condition. -/
import Derived.Test.YtfaemheimmndgaaGreatDoorXF
set_option linter.unusedVariables false
set_option linter.unusedSimpArgs false
namespace Go.Proofs.YtfaemheimmndgaaGreatDoor.XI
noncomputable section

section
variable {E : Env} {σ : Nat → Loc} {A : Nat → Prop} {M : Mem} {w : World} {h : H}

theorem isSrc_cases {k : TI} (h : k.isSrc = true) : (∃ e, k.desc = .slice e) ∨ k.desc = .string := by
  unfold TI.isSrc at h
  split at h
  · exact .inl ⟨_, by assumption⟩
  · exact .inr (by assumption)
  · cases h

/-- An append with room. -/
theorem append_in (ok : E.Ok) {t u e : TypeId} {i k j : TI} (hi : E.ty t = some i) (hk : E.ty u = some k) (hd : i.desc = .slice e) (hks : k.isSrc = true) (hj : E.ty e = some j) {y : Value} {n : Nat} (hlen : Builtin.lenOf y = pure n)
    (base : Option Addr) (sLen sCap : Nat) (ty : TypeId) (w : World) (hle : sLen + n ≤ sCap) (news : Array Value) (hf : (Builtin.firstCells j.size n y).run E.P w = .ok news w) :
    (Builtin.append_ #[t, u] ty #[.slice base sLen sCap, y]).run E.P w =
      ((match base with | some a => storeCells (a.add (sLen * j.size)) news.toList | none => pure ()).run E.P w).andThen fun _ w' => .ok (.slice base (sLen + n) sCap) w' := by
  have h1 := ok.und w hi
  have h2 := ok.und w hk
  rw [hd] at h1
  obtain ⟨_, inf, g1, g2, g3, g4⟩ := ok.ty e j hj
  rcases isSrc_cases hks with ⟨e', hkd⟩ | hkd <;> rw [hkd] at h2 <;> cases base <;> simp [Builtin.append_, h1, h2, sizeOf, typeInfo, g1, g2, hlen, hle, hf, Result.andThen]

/-- An append that must grow. -/
theorem append_grow (ok : E.Ok) {t u e : TypeId} {i k j : TI} (hi : E.ty t = some i) (hk : E.ty u = some k) (hd : i.desc = .slice e) (hks : k.isSrc = true) (hj : E.ty e = some j) {y : Value} {n : Nat} (hlen : Builtin.lenOf y = pure n)
    (base : Option Addr) (sLen sCap : Nat) (ty : TypeId) (w : World) (hgt : sCap < sLen + n) (hb : (sLen + n) * j.bytes ≤ 140737488355328) (hb0 : 0 < j.bytes) (news olds : Array Value)
    (hf : (Builtin.firstCells j.size n y).run E.P w.drew = .ok news w.drew) (hfo : (Builtin.firstCells j.size sLen (.slice base sLen sCap)).run E.P w.drew = .ok olds w.drew) :
    (Builtin.append_ #[t, u] ty #[.slice base sLen sCap, y]).run E.P w = .ok (.slice (some ⟨w.heap.size, 0, none⟩) (sLen + n) (grownCap w (sLen + n) sCap e))
      (w.drew.alloc (.cells (olds ++ news ++ Builtin.zeroCells j.zero.cells (grownCap w (sLen + n) sCap e - (sLen + n))) e)) := by
  have h1 := ok.und w hi
  have h2 := ok.und w hk
  rw [hd] at h1
  obtain ⟨_, inf, g1, g2, g3, g4⟩ := ok.ty e j hj
  have h63 : ((sLen + n : Nat) : Int) ≤ 9223372036854775807 := by
    have : sLen + n ≤ (sLen + n) * j.bytes := Nat.le_mul_of_pos_right _ hb0
    omega
  have hn : ¬ (sLen + n ≤ sCap) := by omega
  have h63' : ¬ (9223372036854775807 < ((sLen : Int) + (n : Int))) := by omega
  have hfit := growslice_fits (need := sLen + n) (old := sCap) (bytes := j.bytes) hgt hb
  have h48' : ¬ (281474976710656 < Builtin.nextslicecap (sLen + n) sCap * j.bytes) := by omega
  rcases isSrc_cases hks with ⟨e', hkd⟩ | hkd <;> rw [hkd] at h2 <;> simp [Builtin.append_, h1, h2, sizeOf, typeInfo, zeroValue, g1, g2, g3, g4, hlen, hn, h63', h48', Question.forced, hf, hfo, newRow, grownCap]

theorem grownCap_ge' (w : World) (need old : Nat) (e : TypeId) : need ≤ grownCap w need old e := by
  unfold grownCap Question.cut
  simp

theorem aAppend_ok (ok : E.Ok) (r : RelH σ A M w h) {t u : TypeId} {x y z : AV} {h' : H} (hx : aAppend E h t u x y = some (z, h')) {v : Value} (hv : RelV σ A M x v) {vy : Value} (hy : RelV σ A M y vy) (ty : TypeId) :
    Made E σ A M w h (Builtin.append_ #[t, u] ty #[v, vy]) z h' := by
  unfold aAppend at hx
  simp only [tk_eq, dp_eq, ap_eq, ln_eq, nt_eq, mp_eq, al_eq, st_eq, rpl_eq, eqN_eq, iLe_eq, iLt_eq, iEq_beq, bNot_eq, iAdd_eq, iSub_eq, wr_eq, cond_eq_if, ble_dec, natBeq, decide_eq_true_eq] at hx
  split at hx
  case h_2 => cases hx
  rename_i i k hi hk
  split at hx
  case isFalse => cases hx
  rename_i hks
  split at hx
  · rename_i e hd
    split at hx
    case h_2 => cases hx
    rename_i j hj
    split at hx
    case h_2 => cases hx
    rename_i ys n hsrc
    split at hx
    case isFalse => cases hx
    rename_i hcond
    simp only [Bool.and_eq_true, decide_eq_true_eq] at hcond
    obtain ⟨hone, hsz, hby⟩ := hcond
    have hone : ys.all AV.one = true := hone
    obtain ⟨hlen, vs, g1, g2, g3⟩ := aSrc_ok (P := E.P) r hsrc hy
    have hlv := g1.length
    have hf : (Builtin.firstCells j.size n vy).run E.P w = .ok vs w := by
      have := g3 n (Nat.le_refl _)
      rw [List.take_of_length_le (by simp at hlv ⊢; omega)] at this
      simpa using this
    obtain ⟨_, vs', g1', g2', g3'⟩ := aSrc_ok (P := E.P) r.drew hsrc hy
    have hfd : ∃ nd : Array Value, (Builtin.firstCells j.size n vy).run E.P w.drew = .ok nd w.drew ∧ RelL σ A M ys nd.toList := by
      have := g3' n (Nat.le_refl _)
      have hlv' := g1'.length
      rw [List.take_of_length_le (by simp at hlv' ⊢; omega)] at this
      exact ⟨vs', by simpa using this, g1'⟩
    have hzs := ok.zlen e j hj
    split at hx
    · -- nil
      cases hv
      have A1 := append_in ok hi hk hd hks hj hlen none 0 0 ty w
      have A2 := append_grow ok hi hk hd hks hj hlen none 0 0 ty w
      split at hx
      · rename_i h0
        subst h0
        cases hx
        refine Made.same r ⟨.slice none 0 0, ?_, .nils⟩
        rw [A1 (by omega) _ hf]
        simp
      · rename_i h0
        split at hx
        case isFalse => cases hx
        rename_i hb
        cases hx
        obtain ⟨nd, hfd1, hfd2⟩ := hfd
        have hrun := A2 (by omega) (by simpa using hb) (by omega) _ #[] hfd1 (by simp [Builtin.firstCells])
        simp only [Nat.zero_add] at hrun
        obtain ⟨p1, p2⟩ := push_prefix r.drew ys (#[] ++ nd ++ Builtin.zeroCells j.zero.cells (grownCap w n 0 e - n)) e nd.toList hfd2 (fun q u hq => by
          have : q < nd.size := by have := (List.getElem?_eq_some_iff.1 hq).1; simpa using this
          rw [Array.getElem?_append_left (by simpa using this)]
          simpa using hq)
        refine ⟨_, _, hrun, _, _, (Step.drew σ A w h).trans p1, ?_, p2⟩
        have hnd := hfd2.length
        have hge := grownCap_ge' w n 0 e
        have hzc := rel_zc (σ := σ) (A := A) (M := M) ok hj
        refine rel_sl_new (.inr rfl) (upd_same _ _ _) rfl (Nat.le_refl _) hge ?_
        simp only [Array.size_append, size_zeroCells', World.size_drew]
        rw [hzs]
        simp at hnd
        have : n * j.size + (grownCap w n 0 e - n) * j.size = grownCap w n 0 e * j.size := by rw [← Nat.add_mul]; congr 1; omega
        simp
        omega
    · rename_i b o m c z'
      split at hx
      case isFalse => cases hx
      rename_i hz
      subst hz
      have hv0 := hv
      cases hv with | sl _ _ _ _ _ cap a hA hn hc ha hzz =>
      have A1 := append_in ok hi hk hd hks hj hlen (some a) m cap ty w
      have A2 := append_grow ok hi hk hd hks hj hlen (some a) m cap ty w
      split at hx
      · rename_i h0
        subst h0
        cases hx
        refine Made.same r ⟨.slice (some a) m cap, ?_, hv0⟩
        rw [A1 (by omega) _ hf]
        have : vs = #[] := by
          have : vs.toList = [] := List.eq_nil_of_length_eq_zero (by omega)
          exact Array.toList_inj.1 (by simpa using this)
        subst this
        simp [storeCells]
      · rename_i h0
        split at hx
        case h_2 => cases hx
        rename_i cs hb
        have hroom : ∀ {h1 : H}, hStore h b (o + m * j.size) ys = some h1 → m + n ≤ cap → ∃ w', (Builtin.append_ #[t, u] ty #[.slice (some a) m cap, vy]).run E.P w = .ok (.slice (some a) (m + n) cap) w' ∧ Step σ A w h σ A w' h1 ∧ RelH σ A M w' h1 := by
          intro h1 hs hle
          obtain ⟨w', r1, r2, r3⟩ := hStore_ok E.P r hs g1
          refine ⟨w', ?_, r2, r3⟩
          rw [A1 hle _ hf]
          simp only [ha (by omega), add_at]
          rw [Nat.add_assoc, r1]
          rfl
        split at hx
        · rename_i hle
          split at hx
          case h_2 => cases hx
          rename_i h1 hs
          cases hx
          obtain ⟨w', r1, r2, r3⟩ := hroom hs (by omega)
          exact ⟨_, w', r1, σ, A, r2, .sl _ _ _ _ _ _ _ hA hle hc ha hzz, r3⟩
        · rename_i hnle
          split at hx
          case isFalse => cases hx
          rename_i hcond2
          simp only [Bool.and_eq_true, decide_eq_true_eq] at hcond2
          obtain ⟨hbytes, hext⟩ := hcond2
          split at hx
          case h_2 => cases hx
          rename_i h1 hdead
          cases hx
          have hw1 := H.write_next hdead
          by_cases hle : m + n ≤ cap
          · -- in place
            obtain ⟨c0, ec, fr, b1, b2, b3, b4⟩ := r.blk b _ hb
            have hcapz : (m + n) * j.size ≤ cap * j.size := Nat.mul_le_mul_right _ hle
            have hmn : (m + n) * j.size = m * j.size + n * j.size := Nat.add_mul _ _ _
            have hcap0 : 0 < cap := by omega
            simp only [Array.length_toList] at hlv
            have hvs : vs.toList.length = n * j.size := by simp; omega
            have hroomz : (σ b).off + (o + m * j.size) + vs.toList.length ≤ c0.size := by rw [b2, hvs]; omega
            obtain ⟨w', r1, r2, r3, r4, r5, r6, r7⟩ := storeCells_ok E.P vs.toList 0 w c0 ec fr ((σ b).off + (o + m * j.size)) b1 (by omega) b3 (g1.ones hone)
            have hwr : ∃ h2, h.write b (.cells (cs.take (o + m * j.size) ++ ys)) = some h2 := by
              unfold H.write; rw [cond_ble, if_pos hw1.2.2]; exact ⟨_, rfl⟩
            obtain ⟨h2, hh2⟩ := hwr
            have hrel2 : RelP σ A M (cs.take (o + m * j.size) ++ ys) (putAt c0 ((σ b).off + (o + m * j.size)) vs.toList) (σ b).off := by
              intro q y0 hq
              rw [get_putAt _ _ _ hroomz]
              rcases Nat.lt_or_ge q (o + m * j.size) with hq1 | hq1
              · rw [List.getElem?_append_left (by simp; omega), List.getElem?_take_of_lt hq1] at hq
                rw [if_neg (by omega)]
                exact b4 q y0 hq
              · rw [List.getElem?_append_right (by simp; omega)] at hq
                have e1 : q - (cs.take (o + m * j.size)).length = q - (o + m * j.size) := by simp; omega
                rw [e1] at hq
                obtain ⟨v1, hv1, hr1⟩ := g1.get hq
                have hlt : q - (o + m * j.size) < vs.toList.length := (List.getElem?_eq_some_iff.1 hv1).1
                rw [if_pos (by omega)]
                have e2 : (σ b).off + q - ((σ b).off + (o + m * j.size)) = q - (o + m * j.size) := by omega
                exact ⟨v1, by rw [e2]; exact hv1, hr1⟩
            obtain ⟨S1, R1⟩ := write_ok r hb rfl hh2 r2 r3 r4 r5 r6 (y := .cells (cs.take (o + m * j.size) ++ ys)) ⟨_, ec, fr, by simpa using r7, by rw [size_putAt]; exact b2, by rw [size_putAt]; exact b3, hrel2⟩
            have hw2 := H.write_next hh2
            obtain ⟨S2, R2⟩ := rename_ok (o := o) R1 (b := b) (cs := cs.take (o + m * j.size) ++ ys) (by rw [H.get_write hh2, if_pos rfl]) (by simp; omega) (h' := h1.push (.cells ((cs.drop o).take (m * j.size) ++ ys)))
              (by simp only [H.push, Nat.add_eq]; rw [hw1.1, hw2.1, H.write_st hdead, H.write_st hh2]) (by simp only [H.push]; rw [H.write_st hdead, H.write_st hh2]) (by simp only [H.push]; rw [hw1.2.1, hw2.2.1]) (by rw [hw2.2.1]; exact hw1.2.2) (fun q => by
                rw [H.get_push, hw1.1, hw2.1, H.get_write hdead, H.get_write hh2]
                have e3 : (cs.take (o + m * j.size) ++ ys).drop o = (cs.drop o).take (m * j.size) ++ ys := by
                  rw [List.drop_append_of_le_length (by simp; omega), List.drop_take]
                  congr 2
                  omega
                rw [e3]
                split
                · rfl
                · split <;> rfl)
            refine ⟨.slice (some a) (m + n) cap, w', ?_, _, _, S1.trans S2, ?_, R2⟩
            · rw [A1 hle _ hf]
              simp only [ha hcap0, add_at]
              rw [Nat.add_assoc, r1]
              rfl
            · rw [hw1.1, ← hw2.1]
              refine .sl _ _ _ _ _ _ _ (.inr rfl) (Nat.le_refl _) hle (fun _ => ?_) ?_
              · rw [upd_same, ha hcap0]; simp
              · rw [upd_same]; simp only; omega
          · -- a new row
            obtain ⟨nd, hfd1, hfd2⟩ := hfd
            obtain ⟨vo, o1, o2, o3⟩ := cells_of r.drew hb o (m * j.size) hext
            have hcapz : m * j.size ≤ cap * j.size := Nat.mul_le_mul_right _ (by omega)
            have hfo : (Builtin.firstCells j.size m (.slice (some a) m cap)).run E.P w.drew = .ok vo.toArray w.drew := by
              simp only [Builtin.firstCells]
              by_cases h0 : m * j.size = 0
              · have : vo = [] := List.eq_nil_of_length_eq_zero (by omega)
                subst this
                rw [h0]; simp [loadCells, loadCellsFrom]
              · have hcap0 : 0 < cap := by
                  rcases Nat.eq_zero_or_pos cap with hq | hq
                  · have : m = 0 := by omega
                    subst this; simp at h0
                  · exact hq
                exact loadCells_of E.P a vo (fun q u hq => by rw [ha hcap0]; exact o3 q u hq) o1
            have hrun := A2 (by omega) hbytes (by omega) _ _ hfd1 hfo
            obtain ⟨S1, R1⟩ := write_ok (w' := w.drew) r.drew hb rfl hdead rfl rfl rfl rfl (fun _ _ => rfl) (y := .dead) trivial
            have hnd := hfd2.length
            simp only [Array.length_toList] at hnd
            obtain ⟨p1, p2⟩ := push_prefix R1 ((cs.drop o).take (m * j.size) ++ ys) (vo.toArray ++ nd ++ Builtin.zeroCells j.zero.cells (grownCap w (m + n) cap e - (m + n))) e (vo ++ nd.toList) (o2.append hfd2) (fun q u hq => by
              have hlt : q < (vo.toArray ++ nd).size := by have := (List.getElem?_eq_some_iff.1 hq).1; simpa using this
              rw [Array.getElem?_append_left hlt]
              have : (vo.toArray ++ nd)[q]? = (vo ++ nd.toList)[q]? := by rw [← Array.getElem?_toList]; simp
              rw [this]; exact hq)
            have hge := grownCap_ge' w (m + n) cap e
            refine ⟨_, _, hrun, _, _, ((Step.drew σ A w h).trans S1).trans p1, ?_, p2⟩
            refine rel_sl_new (l := ⟨w.drew.heap.size, 0, _⟩) (.inr rfl) (upd_same _ _ _) rfl (Nat.le_refl _) hge ?_
            simp only [Array.size_append, size_zeroCells']
            rw [hzs]
            have : (m + n) * j.size + (grownCap w (m + n) cap e - (m + n)) * j.size = grownCap w (m + n) cap e * j.size := by rw [← Nat.add_mul]; congr 1; omega
            have hmn : (m + n) * j.size = m * j.size + n * j.size := Nat.add_mul _ _ _
            simp
            omega
    · cases hx
  · cases hx
end
end
end Go.Proofs.YtfaemheimmndgaaGreatDoor.XI
