/- Code reckoned where something is told. Part of a verified reckoner of runs: no condition. -/
import Derived.Test.YtfaemheimmndgaaGreatDoorXT
set_option linter.unusedVariables false
set_option linter.unusedSimpArgs false
namespace Go.Proofs.YtfaemheimmndgaaGreatDoor.XI
noncomputable section

/-! ### 23. Code reckoned where something is told -/
/-- What is told of an operation: its value; its value and what the heap is then. -/
inductive Tell where
  | v (x : AV)
  | w (x : AV) (f : H → H)
def tell (ts : List (Nat × Tell)) (d : Option Tmp) : Option Tell := Option.rec (motive := fun _ => Option Tell) none
  (fun t => List.rec (motive := fun _ => Option Tell) none (fun p _ ih => cond (Nat.beq p.1 t) (some p.2) ih) ts) d
def All (ps : List Prop) : Prop := List.rec (motive := fun _ => Prop) True (fun p _ ih => p ∧ ih) ps
theorem All.append {ps qs : List Prop} : All (ap ps qs) ↔ All ps ∧ All qs := by
  rw [ap_eq]
  induction ps with
  | nil => exact ⟨fun h => ⟨trivial, h⟩, fun h => h.2⟩
  | cons p ps ih => exact ⟨fun ⟨h1, h2⟩ => ⟨⟨h1, (ih.1 h2).1⟩, (ih.1 h2).2⟩, fun ⟨⟨h1, h2⟩, h3⟩ => ⟨h1, ih.2 ⟨h2, h3⟩⟩⟩

/-- One operation. -/
def opT (E : Env) (call : CallF) (ts : List (Nat × Tell)) (o : Oper) (fr : Fr) (h : H) : Option (AV × H × List Prop) :=
  match tell ts o.dst with
  | some (.v x) => some (x, h, [rdo o.op E fr h = some x])
  | some (.w x f) => some (x, f h, [opA E call o.op fr h = some (x, f h)])
  | none => match opA E call o.op fr h with
    | some (x, h') => some (x, h', [])
    | none => none
section
variable {E : Env} {call : CallF} {ts : List (Nat × Tell)} {M : Mem} {n : Nat} {rb : Option Nat}
theorem opT_ok {o : Oper} {fr : Fr} {h h' : H} {x : AV} {ps : List Prop} (e : opT E call ts o fr h = some (x, h', ps)) (hp : All ps) : opA E call o.op fr h = some (x, h') := by
  unfold opT at e
  split at e
  · cases e
    unfold opA
    rw [rdo_ok hp.1]
  · cases e; exact hp.1
  · split at e
    · cases e; assumption
    · cases e

abbrev RT := Out × List Prop
def RT.add (ps : List Prop) (r : RT) : RT := Prod.rec (motive := fun _ => RT) (fun o qs => (o, ap ps qs)) r
def opsT (E : Env) (call : CallF) (ts : List (Nat × Tell)) (all ops : List Oper) : Fr → H → RT := List.rec (motive := fun _ => Fr → H → RT) (fun fr h => (.nor fr h, []))
  (fun o _ ih fr h => match wantedG all fr o.guard with
    | none => (.no, [])
    | some b => Bool.rec (motive := fun _ => RT) (ih (putF fr o.dst .undef) h) (match opT E call ts o fr h with
      | some p => RT.add p.2.2 (ih (putF fr o.dst p.1) p.2.1)
      | none => (.no, [])) b) ops
theorem add_fst (ps : List Prop) (r : RT) : (RT.add ps r).1 = r.1 := by cases r; rfl
theorem add_snd (ps : List Prop) (r : RT) : (RT.add ps r).2 = ap ps r.2 := by cases r; rfl
theorem opsT_ok {all : List Oper} : ∀ (ops : List Oper) (fr : Fr) (h : H), All (opsT E call ts all ops fr h).2 → (opsT E call ts all ops fr h).1 ≠ .no → opsA E call all ops fr h = (opsT E call ts all ops fr h).1
  | [], fr, h, _, _ => rfl
  | o :: ops, fr, h, hp, hn => by
    have e1 : opsT E call ts all (o :: ops) fr h = (match wantedG all fr o.guard with
      | none => (.no, [])
      | some b => Bool.rec (motive := fun _ => RT) (opsT E call ts all ops (putF fr o.dst .undef) h) (match opT E call ts o fr h with
        | some p => RT.add p.2.2 (opsT E call ts all ops (putF fr o.dst p.1) p.2.1)
        | none => (.no, [])) b) := rfl
    have e2 : opsA E call all (o :: ops) fr h = opsS E call all o (opsA E call all ops) fr h := rfl
    rw [e1] at hp hn ⊢
    rw [e2]
    unfold opsS
    cases hw : wantedG all fr o.guard with
    | none => exact (hn (by rw [hw])).elim
    | some b =>
      rw [hw] at hp hn
      simp only at hp hn ⊢
      cases b with
      | false => exact opsT_ok ops _ _ hp hn
      | true =>
        simp only at hp hn ⊢
        cases ho : opT E call ts o fr h with
        | none => exact (hn (by rw [ho])).elim
        | some p =>
          obtain ⟨x, h', ps⟩ := p
          rw [ho] at hp hn
          simp only [add_fst, add_snd] at hp hn ⊢
          obtain ⟨h1, h2⟩ := All.append.1 hp
          rw [opT_ok ho h1]
          exact opsT_ok ops _ _ h2 hn

/-! #### A drawn region -/
abbrev RST := Option (RS × List Prop)
def RST.add (r : Row) (ps : List Prop) (x : RST) : RST := match x with | some p => some (⟨r :: p.1.rows, p.1.hs, p.1.fs, p.1.fr⟩, ap ps p.2) | none => none
def RST.addH (r : Row) (h : H) (ps : List Prop) (x : RST) : RST := match x with | some p => some (⟨r :: p.1.rows, h :: p.1.hs, p.1.fs, p.1.fr⟩, ap ps p.2) | none => none
abbrev PassT := Nat → Nat → Fr → H → Fs → RST
/-- A reader, or one that doesn't look at the heap. -/
def rdT (E : Env) (ts : List (Nat × Tell)) (o : Oper) (fr : Fr) (h : H) : Option (AV × List Prop) := match tell ts o.dst with
  | some (.v x) => some (x, [rdo o.op E fr h = some x])
  | some (.w _ _) => none
  | none => match rdo o.op E fr h with | some x => some (x, []) | none => none
def tBl (ts : List (Nat × Tell)) (C : Cx) (inf : Inf) (b : Bool) (ih : PassT) : PassT := fun i k fr h fs =>
  match cond b (rdT C.E ts inf.o fr h) (some (.undef, [])) with
  | some p => RST.add ⟨inf.o.dst, p.1, fr, b⟩ p.2 (ih (Nat.succ i) k (putF fr inf.o.dst p.1) h fs)
  | none => none
def tRd (ts : List (Nat × Tell)) (C : Cx) (inf : Inf) (b : Bool) (ih : PassT) : PassT := fun i k fr h fs =>
  match cond b (rdT C.E ts inf.o fr (hputA C.cms inf.m k h fs)) (some (.undef, [])) with
  | some p => RST.add ⟨inf.o.dst, p.1, fr, b⟩ p.2 (ih (Nat.succ i) k (putF fr inf.o.dst p.1) h fs)
  | none => none
def tCh (ts : List (Nat × Tell)) (C : Cx) (inf : Inf) (b : Bool) (ih : PassT) : PassT := fun i k fr h fs =>
  match cond b (opT C.E C.call ts inf.o fr (hputA C.cms inf.m k h fs)) (some (.undef, hputA C.cms inf.m k h fs, [])) with
  | some p => RST.addH ⟨inf.o.dst, p.1, fr, b⟩ h p.2.2 (ih (Nat.succ i) (Nat.succ k) (putF fr inf.o.dst p.1) p.2.1 fs)
  | none => none
def tFre (ts : List (Nat × Tell)) (C : Cx) (inf : Inf) (b : Bool) (ih : PassT) : PassT := fun i k fr h fs =>
  match cond b (opT C.E C.call ts inf.o fr ⟨.e, freId C fs, 0, C.stm⟩) (some (.undef, ⟨.e, freId C fs, 0, C.stm⟩, [])) with
  | some p => cond (Nat.ble p.2.1.next (Nat.add (freId C fs) C.stm)) (RST.add ⟨inf.o.dst, p.1, fr, b⟩ p.2.2 (ih (Nat.succ i) k (putF fr inf.o.dst p.1) h (ap fs [(i, freId C fs, p.2.1.get (freId C fs))]))) none
  | none => none
def passT (ts : List (Nat × Tell)) (C : Cx) (is : List Inf) : PassT := List.rec (motive := fun _ => PassT) (fun _ _ fr h fs => some (⟨[], [h], fs, fr⟩, []))
  (fun inf _ ih i k fr h fs => match wantedG C.all fr inf.o.guard with
    | none => none
    | some b => K4.rec (motive := fun _ => List (Nat × Tell) → Cx → Inf → Bool → PassT → PassT) tBl tRd tFre tCh inf.k ts C inf b ih i k fr h fs) is

theorem rdT_ok {o : Oper} {fr : Fr} {h : H} {x : AV} {ps : List Prop} (e : rdT E ts o fr h = some (x, ps)) (hp : All ps) : rdo o.op E fr h = some x := by
  unfold rdT at e
  split at e
  · cases e; exact hp.1
  · cases e
  · split at e
    · cases e; assumption
    · cases e
theorem addT_some {r : Row} {ps qs : List Prop} {x : RST} {R : RS} (h : RST.add r ps x = some (R, qs)) : ∃ R' rs, x = some (R', rs) ∧ R = ⟨r :: R'.rows, R'.hs, R'.fs, R'.fr⟩ ∧ qs = ap ps rs := by
  cases x with
  | none => cases h
  | some p => obtain ⟨R', rs⟩ := p; cases h; exact ⟨R', rs, rfl, rfl, rfl⟩
theorem addHT_some {r : Row} {g : H} {ps qs : List Prop} {x : RST} {R : RS} (h : RST.addH r g ps x = some (R, qs)) : ∃ R' rs, x = some (R', rs) ∧ R = ⟨r :: R'.rows, g :: R'.hs, R'.fs, R'.fr⟩ ∧ qs = ap ps rs := by
  cases x with
  | none => cases h
  | some p => obtain ⟨R', rs⟩ := p; cases h; exact ⟨R', rs, rfl, rfl, rfl⟩

theorem passT_spec (C : Cx) : ∀ (is : List Inf) (i k : Nat) (fr : Fr) (h : H) (fs : Fs) (R : RS) (qs : List Prop), (∀ x ∈ fs, x.1 < i) → passT ts C is i k fr h fs = some (R, qs) → All qs → PassS C is i k fr h fs R
  | [], i, k, fr, h, fs, R, qs, hfs, hx, _ => by
    have hx : some ((⟨[], [h], fs, fr⟩ : RS), ([] : List Prop)) = some (R, qs) := hx
    cases hx
    exact ⟨rfl, rfl, rfl, ⟨[], by simp, by simp, by simp, by simp, rfl⟩, rfl, fun j inf hj => by simp at hj⟩
  | inf :: is, i, k, fr, h, fs, R, qs, hfs, hx, hqs => by
    have hx : (match wantedG C.all fr inf.o.guard with
      | none => none
      | some b => K4.rec (motive := fun _ => List (Nat × Tell) → Cx → Inf → Bool → PassT → PassT) tBl tRd tFre tCh inf.k ts C inf b (passT ts C is) i k fr h fs) = some (R, qs) := hx
    cases hw : wantedG C.all fr inf.o.guard with
    | none => rw [hw] at hx; cases hx
    | some b =>
    rw [hw] at hx
    have hfs' : ∀ x ∈ fs, x.1 < i + 1 := fun x hx => by have := hfs x hx; omega
    obtain ⟨o, m, kk, ks⟩ := inf
    cases kk with
    | bl =>
      have hx : tBl ts C ⟨o, m, .bl, ks⟩ b (passT ts C is) i k fr h fs = some (R, qs) := hx
      unfold tBl at hx
      simp only at hx
      split at hx
      case h_2 => cases hx
      rename_i p hv
      obtain ⟨v, ps⟩ := p
      obtain ⟨R', rs, g1, rfl, rfl⟩ := addT_some hx
      obtain ⟨q1, q2⟩ := All.append.1 hqs
      have hp := passT_spec C is (i + 1) k _ h fs R' rs hfs' g1 q2
      refine passS_plain (row := ⟨o.dst, v, fr, b⟩) rfl rfl hp rfl ?_
      obtain ⟨fs2, f1, f2, _⟩ := hp.fs
      refine ⟨fs, fs2, f1, fun x hx => by have := (f2 x hx).1; omega, rfl, hw, fun hb => ?_, fun hb => ?_⟩
      · simp only at hb; subst hb; cases hv; rfl
      · simp only at hb; subst hb; exact ⟨h, rdT_ok hv q1⟩
    | rd =>
      have hx : tRd ts C ⟨o, m, .rd, ks⟩ b (passT ts C is) i k fr h fs = some (R, qs) := hx
      unfold tRd at hx
      simp only at hx
      split at hx
      case h_2 => cases hx
      rename_i p hv
      obtain ⟨v, ps⟩ := p
      obtain ⟨R', rs, g1, rfl, rfl⟩ := addT_some hx
      obtain ⟨q1, q2⟩ := All.append.1 hqs
      have hp := passT_spec C is (i + 1) k _ h fs R' rs hfs' g1 q2
      refine passS_plain (row := ⟨o.dst, v, fr, b⟩) rfl rfl hp rfl ?_
      obtain ⟨fs2, f1, f2, _⟩ := hp.fs
      refine ⟨fs, fs2, f1, fun x hx => by have := (f2 x hx).1; omega, rfl, hw, fun hb => ?_, trivial⟩
      · simp only at hb; subst hb; cases hv; rfl
    | ch =>
      have hx : tCh ts C ⟨o, m, .ch, ks⟩ b (passT ts C is) i k fr h fs = some (R, qs) := hx
      unfold tCh at hx
      simp only at hx
      split at hx
      case h_2 => cases hx
      rename_i p hv
      obtain ⟨v, h', ps⟩ := p
      obtain ⟨R', rs, g1, rfl, rfl⟩ := addHT_some hx
      obtain ⟨q1, q2⟩ := All.append.1 hqs
      have hp := passT_spec C is (i + 1) (k + 1) _ h' fs R' rs hfs' g1 q2
      obtain ⟨fs2, f1, f2, f3, f4, f5⟩ := hp.fs
      refine ⟨by simp [hp.len], rfl, by simp only [List.length_cons, hp.hlen, kA]; simp only [kNext]; omega, ⟨fs2, f1, fun x hx => ?_, f3, f4, f5⟩, ⟨rfl, hp.lk⟩, fun j inf' hj => ?_⟩
      · obtain ⟨g1, inf', g2, g3⟩ := f2 x hx
        refine ⟨by omega, inf', ?_, g3⟩
        have : x.1 - i = (x.1 - (i + 1)) + 1 := by omega
        rw [this]; simpa using g2
      · cases j with
        | zero =>
          simp at hj
          subst hj
          refine ⟨⟨o.dst, v, fr, b⟩, rfl, ?_⟩
          rw [kA_zero]
          refine ⟨fs, fs2, f1, fun x hx => by have := (f2 x hx).1; omega, rfl, hw, fun hb => ?_, h, h', rfl, by simpa using hp.head, ?_⟩
          · simp only at hb; subst hb; cases hv; rfl
          · cases b with
            | true => exact opT_ok hv q1
            | false => cases hv; rfl
        | succ j =>
          obtain ⟨r, g1, g2⟩ := hp.rows j inf' (by simpa using hj)
          refine ⟨r, by simpa using g1, ?_⟩
          have e1 : i + (j + 1) = i + 1 + j := by omega
          have e2 : kA (⟨o, m, .ch, ks⟩ :: is) (j + 1) = kA is j + 1 := by simp only [kA, kNext]; omega
          have e3 : k + (kA is j + 1) = k + 1 + kA is j := by omega
          rw [e1, e2, e3]
          exact rowC_later g2
    | fre =>
      have hx : tFre ts C ⟨o, m, .fre, ks⟩ b (passT ts C is) i k fr h fs = some (R, qs) := hx
      unfold tFre at hx
      simp only at hx
      split at hx
      case h_2 => cases hx
      rename_i p hv
      obtain ⟨v, hf, ps⟩ := p
      rw [cond_eq_if, ble_dec] at hx
      split at hx
      case isFalse => cases hx
      rename_i hle
      simp only [decide_eq_true_eq] at hle
      obtain ⟨R', rs, g1, rfl, rfl⟩ := addT_some hx
      obtain ⟨q1, q2⟩ := All.append.1 hqs
      rw [ap_eq] at g1
      have hp := passT_spec C is (i + 1) k _ h _ R' rs (fun x hx => by
        rcases List.mem_append.1 hx with hx | hx
        · exact hfs' x hx
        · simp at hx; subst hx; simp) g1 q2
      obtain ⟨fs2, f1, f2, f3, f4, f5⟩ := hp.fs
      have hid : freId C fs = C.n0 + C.s0 * (fs.length + 0 + 1) := by
        show C.n0 + C.s0 * (ln fs + 1) = _
        rw [ln_eq]
      refine ⟨by simp [hp.len], hp.head, by simp only [List.length_cons, hp.hlen, kA]; simp only [kNext]; omega, ⟨(i, freId C fs, hf.get (freId C fs)) :: fs2, by rw [f1]; simp, fun x hx => ?_, ?_, fun q x hq => ?_, by simp only [List.length_cons, f5]; rfl⟩, ⟨rfl, hp.lk⟩, fun j inf' hj => ?_⟩
      · rcases List.mem_cons.1 hx with rfl | hx
        · exact ⟨Nat.le_refl _, _, by simp; rfl, rfl⟩
        · obtain ⟨g1, inf', g2, g3⟩ := f2 x hx
          refine ⟨by omega, inf', ?_, g3⟩
          have : x.1 - i = (x.1 - (i + 1)) + 1 := by omega
          rw [this]; simpa using g2
      · refine List.pairwise_cons.2 ⟨fun y hy => ?_, f3⟩
        have := (f2 y hy).1
        show i < y.1
        omega
      · cases q with
        | zero => simp at hq; subst hq; exact hid
        | succ q =>
          have := f4 q x (by simpa using hq)
          rw [this]
          simp only [List.length_append, List.length_singleton]
          congr 2
          omega
      · cases j with
        | zero =>
          simp at hj
          subst hj
          refine ⟨⟨o.dst, v, fr, b⟩, rfl, ?_⟩
          rw [kA_zero]
          refine ⟨fs, (i, freId C fs, hf.get (freId C fs)) :: fs2, by rw [f1]; simp, fun x hx => ?_, rfl, hw, fun hb => ?_, freId C fs, hf, by rw [f1]; simp, hle, ?_⟩
          · rcases List.mem_cons.1 hx with rfl | hx
            · exact Nat.le_refl _
            · have := (f2 x hx).1; omega
          · simp only at hb; subst hb; cases hv; rfl
          · cases b with
            | true => exact opT_ok hv q1
            | false => cases hv; rfl
        | succ j =>
          obtain ⟨r, g1, g2⟩ := hp.rows j inf' (by simpa using hj)
          refine ⟨r, by simpa using g1, ?_⟩
          have e1 : i + (j + 1) = i + 1 + j := by omega
          have e2 : kA (⟨o, m, .fre, ks⟩ :: is) (j + 1) = kA is j := by simp only [kA, kNext]; omega
          rw [e1, e2]
          exact g2

/-- Wherever a reader may come, it reads the same. -/
def ksT (C : Cx) (hs : List H) (fs : Fs) (inf : Inf) (r : Row) (ks : List Nat) : List Prop := List.rec (motive := fun _ => List Prop) [] (fun k _ ih => (match nt hs k with | some h => rdo inf.o.op C.E r.fr (hputA C.cms inf.m k h fs) = some r.v | none => False) :: ih) ks
def rdsT (C : Cx) (hs : List H) (fs : Fs) (is : List Inf) : List Row → List Prop := List.rec (motive := fun _ => List Row → List Prop) (fun _ => [])
  (fun inf _ ih rows => List.rec (motive := fun _ => List Prop) [False] (fun r rs _ => K4.rec (motive := fun _ => List Prop) (ih rs) (cond r.b (ap (ksT C hs fs inf r inf.ks) (ih rs)) (ih rs)) (ih rs) (ih rs) inf.k) rows) is
theorem ksT_ok {C : Cx} {hs : List H} {fs : Fs} {inf : Inf} {r : Row} : ∀ {ks : List Nat}, All (ksT C hs fs inf r ks) → ∀ k ∈ ks, ∃ h, hs[k]? = some h ∧ rdo inf.o.op C.E r.fr (hputA C.cms inf.m k h fs) = some r.v
  | [], _, k, hk => by cases hk
  | k0 :: ks, hp, k, hk => by
    obtain ⟨h1, h2⟩ := (show (match nt hs k0 with | some h => rdo inf.o.op C.E r.fr (hputA C.cms inf.m k0 h fs) = some r.v | none => False) ∧ All (ksT C hs fs inf r ks) from hp)
    rcases List.mem_cons.1 hk with rfl | hk
    · rw [nt_eq] at h1
      split at h1
      · rename_i h hh; exact ⟨h, hh, h1⟩
      · exact h1.elim
    · exact ksT_ok h2 k hk
theorem rdsT_ok {C : Cx} {hs : List H} {fs : Fs} : ∀ (is : List Inf) (rows : List Row), All (rdsT C hs fs is rows) → ∀ (j : Nat) (inf : Inf) (row : Row), is[j]? = some inf → rows[j]? = some row → inf.k = .rd → row.b = true → ∀ k ∈ inf.ks, ∃ h, hs[k]? = some h ∧ rdo inf.o.op C.E row.fr (hputA C.cms inf.m k h fs) = some row.v
  | [], rows, _, j, inf, row, h, _, _, _ => by simp at h
  | x :: is, [], hp, j, inf, row, _, h, _, _ => by simp at h
  | x :: is, r :: rs, hp, j, inf, row, h1, h2, hk, hb => by
    have hp : All (K4.rec (motive := fun _ => List Prop) (rdsT C hs fs is rs) (cond r.b (ap (ksT C hs fs x r x.ks) (rdsT C hs fs is rs)) (rdsT C hs fs is rs)) (rdsT C hs fs is rs) (rdsT C hs fs is rs) x.k) := hp
    have hrest : All (rdsT C hs fs is rs) := by
      cases hx : x.k <;> rw [hx] at hp <;> (try exact hp)
      cases hrb : r.b <;> rw [hrb] at hp
      · exact hp
      · exact (All.append.1 hp).2
    cases j with
    | zero =>
      simp at h1 h2
      subst h1
      subst h2
      rw [hk] at hp
      have hp : All (cond r.b (ap (ksT C hs fs x r x.ks) (rdsT C hs fs is rs)) (rdsT C hs fs is rs)) := hp
      rw [hb] at hp
      exact ksT_ok (All.append.1 hp).1
    | succ j => exact rdsT_ok is rs hrest j inf row (by simpa using h1) (by simpa using h2) hk hb

def drawRT (ts : List (Nat × Tell)) (C : Cx) (p : Plan) (fr : Fr) (h : H) : RT :=
  match passT ts C p.is 0 0 fr ⟨h.t, h.next, h.wb, C.stm⟩ [] with
  | none => (.no, [])
  | some q => (match nt q.1.hs (ln C.cms) with | some g => (.nor q.1.fr (endH C h.wb (nFre p.is) g q.1.fs), ap q.2 (rdsT C q.1.hs q.1.fs p.is q.1.rows)) | none => (.no, []))
def drawT (E : Env) (call : CallF) (ts : List (Nat × Tell)) (ops : List Oper) (fr : Fr) (h : H) : RT := (fun p => cond (planOk ops p) (drawRT ts ⟨E, call, ops, p.cms, h.next, h.st, Nat.mul h.st (Nat.succ (nFre p.is))⟩ p fr h) (.no, [])) (planOf E ops)
theorem drawT_ok (ok : E.Ok) (hm : E.P.follows .mixedOrders = true) (hc : CallOk E M call) {id : Nat} {ops : Array Oper} (hd : ops.toList.all (fun o => dstOk n o.dst) = true) {fr : Fr} {h : H}
    (hp : All (drawT E call ts ops.toList fr h).2) : Snd E M n rb (.region id ops true) fr h (drawT E call ts ops.toList fr h).1 := by
  unfold drawT at hp ⊢
  obtain ⟨pl1, pl2⟩ := plan_spec E ops.toList
  generalize planOf E ops.toList = p at hp pl1 pl2
  simp only [cond_eq_if] at hp ⊢
  split
  case isFalse => exact fun B r σ A w a Q hB rc ra rh hn dg g => g.elim
  rename_i hplan
  rw [if_pos hplan] at hp
  unfold drawRT at hp ⊢
  split
  case h_1 => exact fun B r σ A w a Q hB rc ra rh hn dg g => g.elim
  rename_i q hpass
  rw [hpass] at hp
  simp only at hp
  obtain ⟨R, qs⟩ := q
  split
  case h_2 => exact fun B r σ A w a Q hB rc ra rh hn dg g => g.elim
  rename_i gE hgE
  simp only at hgE
  rw [hgE] at hp
  simp only at hp
  obtain ⟨hp1, hp2⟩ := All.append.1 hp
  rw [nt_eq, ln_eq] at hgE
  have hps := passT_spec _ _ _ _ _ _ _ _ _ (by simp) hpass hp1
  exact draw_core ok hm hc hd hplan pl1 pl2 hps (rdsT_ok _ _ hp2) hgE

/-! #### Frames of which only some is told -/
def anyFr (n : Nat) : Fr := Nat.rec (motive := fun _ => Fr) .e (fun i fr => fr.put i (some .any)) n
def mkFr (n : Nat) (l : List (Nat × AV)) : Fr := List.rec (motive := fun _ => Fr) (anyFr n) (fun p _ ih => ih.put p.1 (some p.2)) l
/-- Only these slots are kept. -/
def wk (n : Nat) (live : List Nat) (fr : Fr) : Fr := List.rec (motive := fun _ => Fr) (anyFr n) (fun t _ ih => ih.put t (some (slotOf (fr.get t)))) live
theorem get_anyFr (n t : Nat) : (anyFr n).get t = if t < n then some .any else none := by
  induction n with
  | zero => exact T.get_e t
  | succ n ih =>
    show T.get (T.put (anyFr n) n (some .any)) t = _
    rw [T.get_put, ih]
    by_cases h1 : t = n
    · subst h1; simp
    · by_cases h2 : t < n
      · rw [if_neg h1, if_pos h2, if_pos (by omega)]
      · rw [if_neg h1, if_neg h2, if_neg (by omega)]
theorem wk_rel {σ : Nat → Loc} {A : Nat → Prop} {fr : Fr} {a : Act} (ra : RelA σ A M fr a) (hn : a.tmps.size = n) : ∀ {live : List Nat}, al (fun t => Nat.ble (Nat.succ t) n) live = true → RelA σ A M (wk n live fr) a
  | [], _ => by
    refine ⟨fun t v hv => ?_, fun t ht => ?_⟩
    · show RelV σ A M (slotOf ((anyFr n).get t)) v
      rw [get_anyFr, if_pos (by rw [← hn]; exact (Array.getElem?_eq_some_iff.1 hv).1)]
      exact .any v
    · show (anyFr n).get t = none
      rw [get_anyFr, if_neg (by omega)]
  | t :: live, hl => by
    rw [al_eq] at hl
    simp only [List.all_cons, Bool.and_eq_true] at hl
    have ih := wk_rel ra hn (live := live) (by rw [al_eq]; exact hl.2)
    have ht : t < n := Nat.le_of_ble_eq_true hl.1
    have e : wk n (t :: live) fr = (wk n live fr).put t (some (slotOf (fr.get t))) := rfl
    rw [e]
    refine ⟨fun u v hv => ?_, fun u hu => ?_⟩
    · rw [T.get_put]
      split
      · rename_i hut; subst hut; exact ra.tmps u v hv
      · exact ih.tmps u v hv
    · rw [T.get_put, if_neg (by omega)]
      exact ih.out u hu
/-! #### Code -/
/-- The bodies of the blocks of this number. -/
def blocksOf (id : Nat) (c : Code) : List Code := Code.rec (motive := fun _ => List Code) [] (fun _ _ _ => []) (fun _ _ a b => ap a b) (fun _ _ _ a b => ap a b) (fun i x a => cond (Nat.beq i id) (x :: a) a) (fun _ a => a) (fun _ _ _ _ _ _ => []) (fun _ => []) (fun _ a => a) (fun _ => []) (fun _ => []) [] (fun _ => []) c
def thenT (k : Fr → H → RT) (r : RT) : RT := Prod.rec (motive := fun _ => RT) (fun o ps => Out.rec (motive := fun _ => RT) (.no, []) (fun fr h => RT.add ps (k fr h)) (fun fr h => (.ret fr h, ps)) (fun i fr h => (.ex i fr h, ps)) o) r
def blkT (id : Nat) (r : RT) : RT := Prod.rec (motive := fun _ => RT) (fun o ps => (Out.blk id o, ps)) r
def iterT (body : Fr → H → RT) (N : Nat) : Fr → H → RT := Nat.rec (motive := fun _ => Fr → H → RT) (fun _ _ => (.no, [])) (fun _ ih fr h => thenT ih (body fr h)) N
/-- A block that is told: what is looked at; the frame, that kept; the heap; what comes of it. -/
structure TB where
  live : List Nat
  fr : Fr
  h : H
  o : Out
abbrev TbF := List (Nat × TB)
def tbOf (tb : TbF) (id : Nat) : Option TB := List.rec (motive := fun _ => Option TB) none (fun p _ ih => cond (Nat.beq p.1 id) (some p.2) ih) tb
theorem tbOf_mem {id : Nat} {t : TB} : ∀ {tb : TbF}, tbOf tb id = some t → (id, t) ∈ tb
  | [], e => nomatch (show (none : Option TB) = some t from e)
  | p :: tb, e => by
    have e : cond (Nat.beq p.1 id) (some p.2) (tbOf tb id) = some t := e
    rw [cond_eq_if, natBeq] at e
    split at e
    · rename_i h
      have h := of_decide_eq_true h
      cases e
      rw [← h]; simp
    · exact List.mem_cons_of_mem _ (tbOf_mem e)
def execT (E : Env) (call : CallF) (ts : List (Nat × Tell)) (tb : TbF) (n N : Nat) (c : Code) : Fr → H → RT := Code.rec (motive := fun _ => Fr → H → RT)
  (fun fr h => (.nor fr h, []))
  (fun _ ops draw => Bool.rec (motive := fun _ => Fr → H → RT) (opsT E call ts ops.toList ops.toList) (drawT E call ts ops.toList) draw)
  (fun _ _ ia ib fr h => thenT ib (ia fr h))
  (fun c _ _ ia ib fr h => match ev fr c with | .b t => Bool.rec (motive := fun _ => RT) (ib fr h) (ia fr h) t | _ => (.no, []))
  (fun id _ ib fr h => match tbOf tb id with | some t => (t.o, [wk n t.live fr = t.fr, h = t.h]) | none => blkT id (ib fr h))
  (fun _ ib fr h => iterT ib N fr h)
  (fun _ _ _ _ _ _ _ _ => (.no, []))
  (fun i fr h => (.ex i fr h, []))
  (fun _ ib fr h => ib fr h)
  (fun _ fr h => (.nor fr h, []))
  (fun _ _ _ => (.no, []))
  (fun fr h => (.ret fr h, []))
  (fun _ _ _ => (.no, [])) c

theorem Snd.no {c : Code} {fr : Fr} {h : H} : Snd E M n rb c fr h .no := fun B r σ A w a Q hB rc ra rh hn dg g => g.elim
theorem Snd.label {fr : Fr} {h : H} {l : Nat} : Snd E M n rb (.label l) fr h (.nor fr h) :=
  fun B r σ A w a Q hB rc ra rh hn d g => wpIn_label (g a w σ A (Step.refl _ _ _ _) ra rh hn d)
theorem Snd.seqT {x y : Code} {k : Fr → H → RT} {fr : Fr} {h : H} {r : RT} (s : All r.2 → Snd E M n rb x fr h r.1) (t : ∀ fr h, All (k fr h).2 → Snd E M n rb y fr h (k fr h).1) (hp : All (thenT k r).2) : Snd E M n rb (.seq x y) fr h (thenT k r).1 := by
  obtain ⟨o, ps⟩ := r
  cases o with
  | no => exact Snd.no
  | nor f1 h1 =>
    have hp : All (RT.add ps (k f1 h1)).2 := hp
    rw [add_snd] at hp
    obtain ⟨h1', h2'⟩ := All.append.1 hp
    show Snd E M n rb (.seq x y) fr h (RT.add ps (k f1 h1)).1
    rw [add_fst]
    exact Snd.seq (s h1') (t _ _ h2')
  | ret f1 h1 => exact Snd.seq_ret (s hp)
  | ex i f1 h1 => exact Snd.seq_ex (s hp)

theorem iterT_ok {x : Code} {body : Fr → H → RT} (s : ∀ fr h, All (body fr h).2 → Snd E M n rb x fr h (body fr h).1) : ∀ (N : Nat) (fr : Fr) (h : H), All (iterT body N fr h).2 → (iterT body N fr h).1 ≠ .no → Loops E M n rb x fr h (iterT body N fr h).1
  | 0, fr, h, _, hn => absurd rfl hn
  | N + 1, fr, h, hp, hn => by
    have e : iterT body (N + 1) fr h = thenT (iterT body N) (body fr h) := rfl
    rw [e] at hp hn ⊢
    have s := s fr h
    generalize body fr h = r at hp hn s ⊢
    obtain ⟨o, ps⟩ := r
    cases o with
    | no => exact absurd rfl hn
    | nor f1 h1 =>
      have hp : All (RT.add ps (iterT body N f1 h1)).2 := hp
      have hn : (RT.add ps (iterT body N f1 h1)).1 ≠ .no := hn
      rw [add_snd] at hp
      rw [add_fst] at hn
      obtain ⟨h1', h2'⟩ := All.append.1 hp
      show Loops E M n rb x fr h (RT.add ps (iterT body N f1 h1)).1
      rw [add_fst]
      exact .next (s h1') (iterT_ok (by assumption) N f1 h1 h2' hn)
    | ret f1 h1 => exact .ret (s hp)
    | ex i f1 h1 => exact .ex (s hp)

theorem Snd.wk {c : Code} {fr : Fr} {h : H} {o : Out} (live : List Nat) (hl : al (fun t => Nat.ble (Nat.succ t) n) live = true) (s : Snd E M n rb c (wk n live fr) h o) : Snd E M n rb c fr h o :=
  fun B r σ A w a Q hB rc ra rh hn d g => s B r σ A w a Q hB rc (wk_rel ra hn hl) rh hn d g
theorem execT_snd (ok : E.Ok) (hm : E.P.follows .mixedOrders = true) (hc : CallOk E M call) {tb : TbF} (N : Nat) : ∀ (c : Code), codeOk n c = true →
    (∀ p ∈ tb, ∀ x ∈ blocksOf p.1 c, Snd E M n rb (.block p.1 x) p.2.fr p.2.h p.2.o ∧ al (fun t => Nat.ble (Nat.succ t) n) p.2.live = true) → ∀ fr h, All (execT E call ts tb n N c fr h).2 → Snd E M n rb c fr h (execT E call ts tb n N c fr h).1 := by
  intro c
  induction c with
  | skip => exact fun _ _ fr h _ => Snd.skip
  | region id ops draw =>
    intro hk _ fr h hp
    have hk2 : ops.toList.all (fun o => dstOk n o.dst) = true := by rw [← al_eq]; exact hk
    cases draw with
    | false =>
      have hp : All (opsT E call ts ops.toList ops.toList fr h).2 := hp
      show Snd E M n rb _ fr h (opsT E call ts ops.toList ops.toList fr h).1
      by_cases hn : (opsT E call ts ops.toList ops.toList fr h).1 = .no
      · rw [hn]; exact Snd.no
      · exact Snd.ops ok hc hk2 (opsT_ok _ _ _ hp hn)
    | true => exact drawT_ok ok hm hc hk2 hp
  | seq a b iha ihb =>
    intro hk htb fr h hp
    have hk : cond (codeOk n a) (codeOk n b) false = true := hk
    rw [cond_eq_if] at hk
    have hka : codeOk n a = true := by revert hk; cases codeOk n a <;> simp
    rw [hka] at hk
    have hb : ∀ id, blocksOf id (.seq a b) = blocksOf id a ++ blocksOf id b := fun id => ap_eq _ _
    exact Snd.seqT (iha hka (fun p hp x hx => htb p hp x (by rw [hb]; simp [hx])) fr h) (ihb (by simpa using hk) (fun p hp x hx => htb p hp x (by rw [hb]; simp [hx]))) hp
  | cond c a b iha ihb =>
    intro hk htb fr h hp
    have hk : cond (codeOk n a) (codeOk n b) false = true := hk
    rw [cond_eq_if] at hk
    have hka : codeOk n a = true := by revert hk; cases codeOk n a <;> simp
    rw [hka] at hk
    have hb : ∀ id, blocksOf id (.cond c a b) = blocksOf id a ++ blocksOf id b := fun id => ap_eq _ _
    have e : execT E call ts tb n N (.cond c a b) fr h = (match ev fr c with | .b t => Bool.rec (motive := fun _ => RT) (execT E call ts tb n N b fr h) (execT E call ts tb n N a fr h) t | _ => (.no, [])) := rfl
    rw [e] at hp ⊢
    split
    · rename_i t ht
      rw [ht] at hp
      refine Snd.cond ht ?_
      cases t with
      | true => exact iha hka (fun p hp x hx => htb p hp x (by rw [hb]; simp [hx])) fr h hp
      | false => exact ihb (by simpa using hk) (fun p hp x hx => htb p hp x (by rw [hb]; simp [hx])) fr h hp
    · exact Snd.no
  | block id x ih =>
    intro hk htb fr h hp
    have e : execT E call ts tb n N (.block id x) fr h = (match tbOf tb id with | some t => (t.o, [wk n t.live fr = t.fr, h = t.h]) | none => blkT id (execT E call ts tb n N x fr h)) := rfl
    rw [e] at hp ⊢
    split
    · rename_i t ho
      rw [ho] at hp
      obtain ⟨h1, h2, _⟩ := (show wk n t.live fr = t.fr ∧ h = t.h ∧ True from hp)
      obtain ⟨s1, s2⟩ := htb _ (tbOf_mem ho) x (by
        show x ∈ cond (Nat.beq id id) (x :: blocksOf id x) (blocksOf id x)
        rw [natBeq]; simp)
      refine Snd.wk t.live s2 ?_
      rw [h1, h2]
      exact s1
    · rename_i ho
      rw [ho] at hp
      have := ih hk (fun p hp y hy => htb p hp y (by
        show y ∈ cond (Nat.beq id p.1) (x :: blocksOf p.1 x) (blocksOf p.1 x)
        cases Nat.beq id p.1
        · exact hy
        · exact List.mem_cons_of_mem _ hy)) fr h
      generalize execT E call ts tb n N x fr h = r at hp this
      obtain ⟨o, ps⟩ := r
      exact Snd.block (this hp)
  | loop x ih =>
    intro hk htb fr h hp
    have hp : All (iterT (execT E call ts tb n N x) N fr h).2 := hp
    show Snd E M n rb _ fr h (iterT (execT E call ts tb n N x) N fr h).1
    by_cases hn : (iterT (execT E call ts tb n N x) N fr h).1 = .no
    · rw [hn]; exact Snd.no
    · exact Snd.loop (iterT_ok (ih hk htb) N fr h hp hn)
  | rangeFunc f ps x y => exact fun _ _ fr h _ => Snd.no
  | exit i => exact fun _ _ fr h _ => Snd.exit
  | scope x ih => exact fun hk htb fr h hp => Snd.scope (ih hk htb fr h hp)
  | label l => exact fun _ _ fr h _ => Snd.label
  | goto l => exact fun _ _ fr h _ => Snd.no
  | ret => exact fun _ _ fr h _ => Snd.ret
  | refuse s => exact fun _ _ fr h _ => Snd.no

/-! #### Forgetting -/
/-- What is known behind it may be forgotten. -/
theorem Snd.wk_nor {c : Code} {fr f1 : Fr} {h h1 : H} (live : List Nat) (hl : al (fun t => Nat.ble (Nat.succ t) n) live = true) (s : Snd E M n rb c fr h (.nor f1 h1)) : Snd E M n rb c fr h (.nor (XI.wk n live f1) h1) :=
  fun B r σ A w a Q hB rc ra rh hn d g => s B r σ A w a Q hB rc ra rh hn d fun a' w' σ' A' s' ra' rh' hn' d' => g a' w' σ' A' s' (wk_rel ra' hn' hl) rh' hn' d'
theorem Snd.wk_ex {c : Code} {fr f1 : Fr} {h h1 : H} {i : Nat} (live : List Nat) (hl : al (fun t => Nat.ble (Nat.succ t) n) live = true) (s : Snd E M n rb c fr h (.ex i f1 h1)) : Snd E M n rb c fr h (.ex i (XI.wk n live f1) h1) :=
  fun B r σ A w a Q hB rc ra rh hn d g => s B r σ A w a Q hB rc ra rh hn d fun a' w' σ' A' s' ra' rh' hn' d' => g a' w' σ' A' s' (wk_rel ra' hn' hl) rh' hn' d'

def wkO (n : Nat) (live : List Nat) (o : Out) : Out := match o with
  | .nor f h => .nor (wk n live f) h
  | .ex i f h => .ex i (wk n live f) h
  | o => o
theorem Snd.wkO {c : Code} {fr : Fr} {h : H} {o : Out} (live : List Nat) (hl : al (fun t => Nat.ble (Nat.succ t) n) live = true) (s : Snd E M n rb c fr h o) : Snd E M n rb c fr h (wkO n live o) := by
  cases o with
  | no => exact s
  | nor f h1 => exact s.wk_nor live hl
  | ret f h1 => exact s
  | ex i f h1 => exact s.wk_ex live hl
def noCall : CallF := fun _ _ _ => none
theorem noCall_ok : CallOk E M noCall := fun t args h z h' e => nomatch (show (none : Option (AV × H)) = some (z, h') from e)
theorem noTb_ok {c : Code} : ∀ p ∈ ([] : TbF), ∀ x ∈ blocksOf p.1 c, Snd E M n rb (.block p.1 x) p.2.fr p.2.h p.2.o ∧ al (fun t => Nat.ble (Nat.succ t) n) p.2.live = true := fun p hp => nomatch hp
theorem oneTb_ok {c x : Code} {id : Nat} {t : TB} (hb : blocksOf id c = [x]) (s : Snd E M n rb (.block id x) t.fr t.h t.o) (hl : al (fun t => Nat.ble (Nat.succ t) n) t.live = true) :
    ∀ p ∈ ([(id, t)] : TbF), ∀ x ∈ blocksOf p.1 c, Snd E M n rb (.block p.1 x) p.2.fr p.2.h p.2.o ∧ al (fun t => Nat.ble (Nat.succ t) n) p.2.live = true := by
  intro p hp y hy
  have hp : p = (id, t) := by simpa using hp
  subst hp
  simp only at hy ⊢
  rw [hb] at hy
  have hy : y = x := by simpa using hy
  subst hy
  exact ⟨s, hl⟩
/-- What is told holds. -/
structure TldP (ps : List Prop) : Prop where
  all : All ps
theorem tld {ps : List Prop} {q : Prop} (e : All ps = q) (h : q) : TldP ps := ⟨e ▸ h⟩
/-- Code, reckoned; what needn't be known behind it is forgotten. -/
theorem run_T (ok : E.Ok) (hm : E.P.follows .mixedOrders = true) (hc : CallOk E M call) {tb : TbF} (N : Nat) {c : Code} (hk : codeOk n c = true) (htb : ∀ p ∈ tb, ∀ x ∈ blocksOf p.1 c, Snd E M n rb (.block p.1 x) p.2.fr p.2.h p.2.o ∧ al (fun t => Nat.ble (Nat.succ t) n) p.2.live = true)
    (live : List Nat) (hl : al (fun t => Nat.ble (Nat.succ t) n) live = true) {fr : Fr} {h : H} {o : Out} (e : XI.wkO n live (execT E call ts tb n N c fr h).1 = o) (hp : TldP (execT E call ts tb n N c fr h).2) : Snd E M n rb c fr h o := by
  rw [← e]
  exact (execT_snd ok hm hc N c hk htb fr h hp.all).wkO live hl

/-- A loop that is left. -/
theorem Snd.loop_ex {x : Code} {id : Nat} {fr f1 : Fr} {h h1 : H} (l : Loops E M n rb x fr h (.ex id f1 h1)) : Snd E M n rb (.block id (.loop x)) fr h (.nor f1 h1) := by
  have s := Snd.block (id := id) (Snd.loop l)
  have e : Out.blk id (.ex id f1 h1) = .nor f1 h1 := by
    show Bool.rec (motive := fun _ => Out) (.ex id f1 h1) (.nor f1 h1) (Nat.beq id id) = _
    rw [natBeq]; simp
  rw [e] at s
  exact s
theorem Snd.loop_ret {x : Code} {id : Nat} {fr f1 : Fr} {h h1 : H} (l : Loops E M n rb x fr h (.ret f1 h1)) : Snd E M n rb (.block id (.loop x)) fr h (.ret f1 h1) := Snd.block (id := id) (Snd.loop l)

/-! #### What is told, shown -/
theorem valOf_some {o : Option AV} {x : AV} {h : H} (e : o = some x) : valOf (keep h o) = some x := by rw [e]; rfl
def strTy (E : Env) (t : TypeId) : Bool := match E.ty t with | some i => (match i.desc with | .string => true | _ => false) | none => false
theorem q_index {t : TypeId} {l : List Nat} {j x : Nat} {k : IntKind} {h : H} (ht : strTy E t = true) (hx : l[j]? = some x) : valOf (keep h (aIndex E t (.s l) (.i k (.ofNat j)))) = some (.i .u8 (.ofNat x)) := by
  refine valOf_some ?_
  unfold strTy at ht
  unfold aIndex
  split at ht
  case h_2 => cases ht
  rename_i i hi
  split at ht
  case h_2 => cases ht
  rename_i hd
  simp only [hi, hd, nt_eq]
  have : iLe 0 (Int.ofNat j) = true := by rw [iLe_eq]; simp
  rw [this]
  simp [hx]

/-- A function, reckoned. -/
theorem callS_T (ok : E.Ok) (hm : E.P.follows .mixedOrders = true) (hc : CallOk E M call) {f : FuncId} {F : Func} (hF : E.fn f = some F) {c : Code} (hb : F.body = some c) {n : Nat} (hn : F.ntmps = n) {rs : List ResultVar} (hr : F.results.toList = rs) (hk : codeOk n c = true) {args : List AV} (hln : Nat.ble (ln args) n = true) {h : H} {z : AV} {h' : H} {tb : TbF} (N : Nat)
    (htb : ∀ p ∈ tb, ∀ x ∈ blocksOf p.1 c, Snd E M n none (.block p.1 x) p.2.fr p.2.h p.2.o ∧ al (fun t => Nat.ble (Nat.succ t) n) p.2.live = true) (hp : TldP (execT E call ts tb n N c (frOf args 0 .e) h).2)
    (e : endA E rs (execT E call ts tb n N c (frOf args 0 .e) h).1 = some (z, h')) : CallS E M (.fn f) args h z h' := by
  subst hn hr
  exact callS_of ok hF hb (by rw [← ln_eq]; exact Nat.le_of_ble_eq_true hln) (execT_snd ok hm hc N c hk htb _ _ hp.all) e
end
end
end Go.Proofs.YtfaemheimmndgaaGreatDoor.XI
