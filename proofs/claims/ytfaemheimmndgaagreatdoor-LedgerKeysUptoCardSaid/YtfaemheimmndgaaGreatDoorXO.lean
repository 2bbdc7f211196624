/- Drawn regions: what the reckoning says. Part of a verified reckoner of runs: no condition. -/
import Derived.Test.YtfaemheimmndgaaGreatDoorXN
set_option linter.unusedVariables false
set_option linter.unusedSimpArgs false
namespace Go.Proofs.YtfaemheimmndgaaGreatDoor.XI
noncomputable section

/-! ### 14. Drawn regions: what the reckoning says -/
theorem tb_eq (m i : Nat) : tb m i = m.testBit i := by
  rw [Nat.testBit_eq_decide_div_mod_eq]
  unfold tb
  rw [natBeq]
  have : Nat.mod (Nat.shiftRight m i) 2 = m / 2 ^ i % 2 := by
    show (m >>> i) % 2 = _
    rw [Nat.shiftRight_eq_div_pow]
  rw [this]
theorem tb_lt {m i j : Nat} (h : m < 2 ^ i) (hj : tb m j = true) : j < i := by
  rw [tb_eq] at hj
  rcases Nat.lt_or_ge j i with h1 | h1
  · exact h1
  · rw [Nat.testBit_lt_two_pow (Nat.lt_of_lt_of_le h (Nat.pow_le_pow_right (by decide) h1))] at hj
    cases hj

theorem mask1_spec {acc : List Nat} : ∀ {es : List Edge} {j : Nat}, tb (mask1 acc es) j = true → ∃ e ∈ es, Region.binds .any e = true ∧ (e.on = j ∨ ∃ m, acc[e.on]? = some m ∧ tb m j = true)
  | [], j, h => by
    rw [tb_eq] at h
    have h : Nat.testBit 0 j = true := h
    simp at h
  | e :: es, j, h => by
    have h : tb (cond (Region.binds .any e) (Nat.lor (Nat.lor (Nat.pow 2 e.on) (Option.rec (motive := fun _ => Nat) 0 (fun x => x) (nt acc e.on))) (mask1 acc es)) (mask1 acc es)) j = true := h
    cases hb : Region.binds .any e with
    | false =>
      rw [hb] at h
      obtain ⟨e', h1, h2⟩ := mask1_spec (es := es) (j := j) h
      exact ⟨e', by simp [h1], h2⟩
    | true =>
      rw [hb] at h
      have h : tb ((2 ^ e.on ||| Option.rec (motive := fun _ => Nat) 0 (fun x => x) (nt acc e.on)) ||| mask1 acc es) j = true := h
      rw [tb_eq, Nat.testBit_or, Nat.testBit_or, Bool.or_eq_true, Bool.or_eq_true] at h
      rcases h with (h | h) | h
      · rw [Nat.testBit_two_pow] at h
        exact ⟨e, by simp, hb, .inl (by simpa using h)⟩
      · rw [nt_eq] at h
        cases hm : acc[e.on]? with
        | none =>
          rw [hm] at h
          have h : Nat.testBit 0 j = true := h
          simp at h
        | some m =>
          rw [hm] at h
          exact ⟨e, by simp, hb, .inr ⟨m, hm, by rw [tb_eq]; exact h⟩⟩
      · obtain ⟨e', h1, h2⟩ := mask1_spec (es := es) (j := j) (by rw [tb_eq]; exact h)
        exact ⟨e', by simp [h1], h2⟩

theorem masks_spec : ∀ (ops : List Oper) (acc : List Nat), ∃ rest, masks ops acc = acc ++ rest ∧ rest.length = ops.length ∧
    ∀ (j : Nat) (o : Oper), ops[j]? = some o → ∃ acc' tl, masks ops acc = acc' ++ tl ∧ rest[j]? = some (mask1 acc' o.after.toList)
  | [], acc => ⟨[], by simp [masks], rfl, fun j o h => by simp at h⟩
  | o :: ops, acc => by
    obtain ⟨rest, h1, h2, h3⟩ := masks_spec ops (acc ++ [mask1 acc o.after.toList])
    have e : masks (o :: ops) acc = masks ops (acc ++ [mask1 acc o.after.toList]) := by
      show masks ops (ap acc [mask1 acc o.after.toList]) = _
      rw [ap_eq]
    refine ⟨mask1 acc o.after.toList :: rest, by rw [e, h1]; simp, by simp [h2], fun j o' hj => ?_⟩
    cases j with
    | zero =>
      simp at hj
      subst hj
      exact ⟨acc, mask1 acc o.after.toList :: rest, by rw [e, h1]; simp, rfl⟩
    | succ j =>
      obtain ⟨acc', tl, g1, g2⟩ := h3 j o' (by simpa using hj)
      exact ⟨acc', tl, by rw [e]; exact g1, by simpa using g2⟩

theorem pres_spec (E : Env) : ∀ (ops : List Oper) (ms : List Nat) (i : Nat), ms.length = ops.length → (pres E ops ms i).length = ops.length ∧
    ∀ (j : Nat) (q : Pre), (pres E ops ms i)[j]? = some q → ms[j]? = some q.2.1
  | [], ms, i, h => ⟨rfl, fun j q hq => by simp [pres] at hq⟩
  | o :: ops, [], i, h => by simp at h
  | o :: ops, m :: ms, i, h => by
    obtain ⟨h1, h2⟩ := pres_spec E ops ms (i + 1) (by simpa using h)
    have e : pres E (o :: ops) (m :: ms) i = (i, m, kd E o.op) :: pres E ops ms (i + 1) := rfl
    rw [e]
    refine ⟨by simp [h1], fun j q hq => ?_⟩
    cases j with
    | zero => simp at hq; subst hq; rfl
    | succ j => simpa using h2 j q (by simpa using hq)

theorem infs_spec (ps : List Pre) (cms : Cms) : ∀ (qs : List Pre) (ops : List Oper), qs.length = ops.length → (infs ps cms qs ops).length = ops.length ∧
    ∀ (j : Nat) (inf : Inf), (infs ps cms qs ops)[j]? = some inf → ops[j]? = some inf.o ∧ ∃ q : Pre, qs[j]? = some q ∧ q.2.1 = inf.m
  | [], [], h => ⟨rfl, fun j inf hq => by simp [infs] at hq⟩
  | [], o :: ops, h => by simp at h
  | q :: qs, [], h => by simp at h
  | q :: qs, o :: ops, h => by
    obtain ⟨h1, h2⟩ := infs_spec ps cms qs ops (by simpa using h)
    have e : infs ps cms (q :: qs) (o :: ops) = ⟨o, q.2.1, k4 ps q, cond (Nat.beq q.2.2 1) (filt (poss cms q.1 q.2.1) (ln cms)) []⟩ :: infs ps cms qs ops := rfl
    rw [e]
    refine ⟨by simp [h1], fun j inf hq => ?_⟩
    cases j with
    | zero => simp at hq; subst hq; exact ⟨rfl, q, rfl, rfl⟩
    | succ j => simpa using h2 j inf (by simpa using hq)

theorem plan_spec (E : Env) (ops : List Oper) : (planOf E ops).is.length = ops.length ∧ ∀ (j : Nat) (inf : Inf), (planOf E ops).is[j]? = some inf → ops[j]? = some inf.o ∧
    ∀ t, tb inf.m t = true → ∃ e ∈ inf.o.after.toList, Region.binds .any e = true ∧ (e.on = t ∨ ∃ inf', (planOf E ops).is[e.on]? = some inf' ∧ tb inf'.m t = true) := by
  obtain ⟨rest, h1, h2, h3⟩ := masks_spec ops []
  rw [List.nil_append] at h1
  have hlen : (masks ops []).length = ops.length := by rw [h1]; exact h2
  obtain ⟨p1, p2⟩ := pres_spec E ops (masks ops []) 0 hlen
  obtain ⟨q1, q2⟩ := infs_spec (pres E ops (masks ops []) 0) (cmsOf (pres E ops (masks ops []) 0) (pres E ops (masks ops []) 0)) (pres E ops (masks ops []) 0) ops p1
  have hm : ∀ (j : Nat) (inf : Inf), (planOf E ops).is[j]? = some inf → ops[j]? = some inf.o ∧ (masks ops [])[j]? = some inf.m := fun j inf hj => by
    obtain ⟨g1, q, g2, g3⟩ := q2 j inf hj
    exact ⟨g1, by rw [p2 j q g2, g3]⟩
  refine ⟨q1, fun j inf hj => ⟨(hm j inf hj).1, fun t ht => ?_⟩⟩
  obtain ⟨g1, g2⟩ := hm j inf hj
  obtain ⟨acc', tl, e1, e2⟩ := h3 j inf.o g1
  rw [h1, e2] at g2
  have g2 := Option.some.inj g2
  rw [← g2] at ht
  obtain ⟨e, k1, k2, k3⟩ := mask1_spec ht
  refine ⟨e, k1, k2, k3.imp id ?_⟩
  rintro ⟨m, k4, k5⟩
  have hm' : (masks ops [])[e.on]? = some m := by
    rw [e1, List.getElem?_append_left (List.getElem?_eq_some_iff.1 k4).1]; exact k4
  have hlt : e.on < (planOf E ops).is.length := by
    have : (planOf E ops).is.length = ops.length := q1
    rw [this, ← hlen]
    exact (List.getElem?_eq_some_iff.1 hm').1
  refine ⟨(planOf E ops).is[e.on], List.getElem?_eq_getElem hlt, ?_⟩
  have := (hm e.on _ (List.getElem?_eq_getElem hlt)).2
  rw [hm'] at this
  cases this
  exact k5

/-- How many of the chain come before. -/
def kA : List Inf → Nat → Nat
  | [], _ => 0
  | _ :: _, 0 => 0
  | inf :: is, j + 1 => kNext 0 inf.k + kA is j
theorem kNext_add (k : Nat) (x : K4) : kNext k x = k + kNext 0 x := by cases x <;> rfl
theorem kA_zero (is : List Inf) : kA is 0 = 0 := by cases is <;> rfl

theorem mem_filt {f : Nat → Bool} : ∀ {n k : Nat}, k ≤ n → f k = true → k ∈ filt f n
  | 0, k, h, hf => by
    have : k = 0 := by omega
    subst this
    show 0 ∈ cond (f 0) [0] []
    rw [hf]; simp
  | n + 1, k, h, hf => by
    show k ∈ cond (f (n + 1)) ((n + 1) :: filt f n) (filt f n)
    by_cases e : k = n + 1
    · subst e; rw [hf]; simp
    · have := mem_filt (n := n) (k := k) (by omega) hf
      cases f (n + 1)
      · exact this
      · exact List.mem_cons_of_mem _ this

theorem planS_spec (all : List Oper) (cms : Cms) : ∀ (is : List Inf) (i k : Nat), planS all cms is i k = true →
    k + kA is is.length = cms.length ∧ ∀ (j : Nat) (inf : Inf), is[j]? = some inf → inf.m < 2 ^ (i + j) ∧ backOk (i + j) inf.o.after.toList = true ∧ laterOk all (i + j) inf.o (is.drop (j + 1)) = true ∧ kOk cms (i + j) (k + kA is j) inf = true
  | [], i, k, h => by
    have h : Nat.beq k (ln cms) = true := h
    rw [natBeq, ln_eq] at h
    refine ⟨by simpa [kA] using h, fun j inf hj => by simp at hj⟩
  | inf :: is, i, k, h => by
    have h : cond (Nat.ble (Nat.succ inf.m) (Nat.pow 2 i)) (cond (backOk i inf.o.after.toList) (cond (laterOk all i inf.o is) (cond (kOk cms i k inf) (planS all cms is (i + 1) (kNext k inf.k)) false) false) false) false = true := h
    simp only [cond_eq_if, ble_dec] at h
    split at h <;> (try (cases h; done))
    rename_i h1
    split at h <;> (try (cases h; done))
    rename_i h2
    split at h <;> (try (cases h; done))
    rename_i h3
    split at h <;> (try (cases h; done))
    rename_i h4
    obtain ⟨g1, g2⟩ := planS_spec all cms is (i + 1) (kNext k inf.k) h
    rw [kNext_add] at g1
    refine ⟨by simp only [List.length_cons, kA]; omega, fun j inf' hj => ?_⟩
    cases j with
    | zero =>
      simp at hj
      subst hj
      refine ⟨of_decide_eq_true h1, h2, by simpa using h3, by rw [kA_zero]; exact h4⟩
    | succ j =>
      obtain ⟨k1, k2, k3, k4⟩ := g2 j inf' (by simpa using hj)
      have e1 : i + (j + 1) = i + 1 + j := by omega
      have e2 : k + kA (inf :: is) (j + 1) = kNext k inf.k + kA is j := by rw [kNext_add]; simp only [kA]; omega
      rw [e1, e2]
      exact ⟨k1, k2, by simpa using k3, k4⟩

theorem chainOk_spec : ∀ (cms : Cms), chainOk cms = true → ∀ (a b : Nat) (c d : Nat × Nat), a < b → cms[a]? = some c → cms[b]? = some d → tb d.2 c.1 = true
  | [], _, a, b, c, d, _, h, _ => by simp at h
  | x :: cms, h, a, b, c, d, hab, hc, hd => by
    have h : cond (al (fun d => tb d.2 x.1) cms) (chainOk cms) false = true := h
    rw [cond_eq_if, al_eq] at h
    split at h <;> (try (cases h; done))
    rename_i h1
    cases b with
    | zero => omega
    | succ b =>
      cases a with
      | zero =>
        simp at hc
        subst hc
        rw [List.all_eq_true] at h1
        exact h1 d (List.mem_of_getElem? (by simpa using hd))
      | succ a => exact chainOk_spec cms h a b c d (by omega) (by simpa using hc) (by simpa using hd)

/-- Each row's frame is the one that those before leave. -/
def Lk : Fr → List Row → Fr → Prop
  | fr, [], frE => frE = fr
  | fr, r :: rs, frE => r.fr = fr ∧ Lk (putF fr r.d r.v) rs frE

def KindC (C : Cx) (hs : List H) (fs fsc : Fs) (i k t : Nat) (inf : Inf) (row : Row) : Prop := match inf.k with
  | .bl => row.b = true → ∃ h0, rdo inf.o.op C.E row.fr h0 = some row.v
  | .rd => True
  | .fre => ∃ id hf, (i, id, hf.get id) ∈ fs ∧ hf.next ≤ id + C.stm ∧ (if row.b then opA C.E C.call inf.o.op row.fr ⟨.e, id, 0, C.stm⟩ = some (row.v, hf) else hf = ⟨.e, id, 0, C.stm⟩)
  | .ch => ∃ hk hk', hs[t]? = some hk ∧ hs[t + 1]? = some hk' ∧ (if row.b then opA C.E C.call inf.o.op row.fr (hputA C.cms inf.m k hk fsc) = some (row.v, hk') else hk' = hputA C.cms inf.m k hk fsc)

def RowC (C : Cx) (hs : List H) (fs : Fs) (i k t : Nat) (inf : Inf) (row : Row) : Prop :=
  ∃ fsc fsr, fs = fsc ++ fsr ∧ (∀ x ∈ fsr, i ≤ x.1) ∧ row.d = inf.o.dst ∧ wantedG C.all row.fr inf.o.guard = some row.b ∧ (row.b = false → row.v = .undef) ∧ KindC C hs fs fsc i k t inf row

structure PassS (C : Cx) (is : List Inf) (i k : Nat) (fr : Fr) (h : H) (fs : Fs) (R : RS) : Prop where
  len : R.rows.length = is.length
  head : R.hs[0]? = some h
  hlen : R.hs.length = kA is is.length + 1
  fs : ∃ fs2, R.fs = fs ++ fs2 ∧ (∀ x ∈ fs2, i ≤ x.1 ∧ ∃ inf, is[x.1 - i]? = some inf ∧ inf.k = .fre) ∧ fs2.Pairwise (fun x y => x.1 < y.1) ∧
    (∀ (q : Nat) (x : Nat × Nat × Option ABlk), fs2[q]? = some x → x.2.1 = C.n0 + C.s0 * (fs.length + q + 1)) ∧ fs2.length = nFre is
  lk : Lk fr R.rows R.fr
  rows : ∀ (j : Nat) (inf : Inf), is[j]? = some inf → ∃ row, R.rows[j]? = some row ∧ RowC C R.hs R.fs (i + j) (k + kA is j) (kA is j) inf row

theorem add_some {r : Row} {x : Option RS} {R : RS} (h : RS.add r x = some R) : ∃ R', x = some R' ∧ R = ⟨r :: R'.rows, R'.hs, R'.fs, R'.fr⟩ := by
  cases x with
  | none => cases h
  | some R' => cases h; exact ⟨R', rfl, rfl⟩
theorem addH_some {r : Row} {g : H} {x : Option RS} {R : RS} (h : RS.addH r g x = some R) : ∃ R', x = some R' ∧ R = ⟨r :: R'.rows, g :: R'.hs, R'.fs, R'.fr⟩ := by
  cases x with
  | none => cases h
  | some R' => cases h; exact ⟨R', rfl, rfl⟩

theorem rowC_later {C : Cx} {hs : List H} {fs : Fs} {i k t : Nat} {inf : Inf} {row : Row} {g : H} (h : RowC C hs fs i k t inf row) : RowC C (g :: hs) fs i k (t + 1) inf row := by
  obtain ⟨fsc, fsr, h1, h2, h3, h4, h5, h6⟩ := h
  refine ⟨fsc, fsr, h1, h2, h3, h4, h5, ?_⟩
  unfold KindC at h6 ⊢
  cases hk : inf.k <;> rw [hk] at h6 <;> simp only at h6 ⊢
  · exact h6
  · exact h6
  · obtain ⟨a, b, c, d, e⟩ := h6
    exact ⟨a, b, by simpa using c, by simpa using d, e⟩

/-- An operation that adds no block and is none of the chain's. -/
theorem passS_plain {C : Cx} {is : List Inf} {inf : Inf} {i k : Nat} {fr : Fr} {h : H} {fs : Fs} {R' : RS} {row : Row} (hk : kNext 0 inf.k = 0) (hn : nFre (inf :: is) = nFre is)
    (hp : PassS C is (i + 1) k (putF fr row.d row.v) h fs R') (hfr : row.fr = fr) (hrow : RowC C R'.hs R'.fs i k 0 inf row) : PassS C (inf :: is) i k fr h fs ⟨row :: R'.rows, R'.hs, R'.fs, R'.fr⟩ where
  len := by simp [hp.len]
  head := hp.head
  hlen := by rw [hp.hlen]; simp only [List.length_cons, kA, hk]; omega
  fs := by
    obtain ⟨fs2, h1, h2, h3, h4, h5⟩ := hp.fs
    refine ⟨fs2, h1, fun x hx => ?_, h3, h4, by rw [hn]; exact h5⟩
    obtain ⟨g1, inf', g2, g3⟩ := h2 x hx
    refine ⟨by omega, inf', ?_, g3⟩
    have : x.1 - i = (x.1 - (i + 1)) + 1 := by omega
    rw [this]; simpa using g2
  lk := ⟨hfr, hp.lk⟩
  rows j inf' hj := by
    cases j with
    | zero =>
      simp at hj
      subst hj
      exact ⟨row, rfl, by simpa [kA_zero] using hrow⟩
    | succ j =>
      obtain ⟨r, g1, g2⟩ := hp.rows j inf' (by simpa using hj)
      refine ⟨r, by simpa using g1, ?_⟩
      have e1 : i + (j + 1) = i + 1 + j := by omega
      have e2 : kA (inf :: is) (j + 1) = kA is j := by simp only [kA, hk]; omega
      rw [e1, e2]
      exact g2

theorem pass_spec (C : Cx) : ∀ (is : List Inf) (i k : Nat) (fr : Fr) (h : H) (fs : Fs) (R : RS), (∀ x ∈ fs, x.1 < i) → pass C is i k fr h fs = some R → PassS C is i k fr h fs R
  | [], i, k, fr, h, fs, R, hfs, hx => by
    have hx : some (⟨[], [h], fs, fr⟩ : RS) = some R := hx
    cases hx
    exact ⟨rfl, rfl, rfl, ⟨[], by simp, by simp, by simp, by simp, rfl⟩, rfl, fun j inf hj => by simp at hj⟩
  | inf :: is, i, k, fr, h, fs, R, hfs, hx => by
    have hx : pS C inf (pass C is) i k fr h fs = some R := hx
    unfold pS at hx
    cases hw : wantedG C.all fr inf.o.guard with
    | none => rw [hw] at hx; cases hx
    | some b =>
    rw [hw] at hx
    have hfs' : ∀ x ∈ fs, x.1 < i + 1 := fun x hx => by have := hfs x hx; omega
    obtain ⟨o, m, kk, ks⟩ := inf
    cases kk with
    | bl =>
      have hx : pBl C ⟨o, m, .bl, ks⟩ b (pass C is) i k fr h fs = some R := hx
      unfold pBl at hx
      simp only at hx
      split at hx
      case h_2 => cases hx
      rename_i v hv
      obtain ⟨R', g1, rfl⟩ := add_some hx
      have hp := pass_spec C is (i + 1) k _ h fs R' hfs' g1
      refine passS_plain (row := ⟨o.dst, v, fr, b⟩) rfl rfl hp rfl ?_
      obtain ⟨fs2, f1, f2, _⟩ := hp.fs
      refine ⟨fs, fs2, f1, fun x hx => by have := (f2 x hx).1; omega, rfl, hw, fun hb => ?_, fun hb => ?_⟩
      · simp only at hb; subst hb; cases hv; rfl
      · simp only at hb; subst hb; exact ⟨h, hv⟩
    | rd =>
      have hx : pRd C ⟨o, m, .rd, ks⟩ b (pass C is) i k fr h fs = some R := hx
      unfold pRd at hx
      simp only at hx
      split at hx
      case h_2 => cases hx
      rename_i v hv
      obtain ⟨R', g1, rfl⟩ := add_some hx
      have hp := pass_spec C is (i + 1) k _ h fs R' hfs' g1
      refine passS_plain (row := ⟨o.dst, v, fr, b⟩) rfl rfl hp rfl ?_
      obtain ⟨fs2, f1, f2, _⟩ := hp.fs
      refine ⟨fs, fs2, f1, fun x hx => by have := (f2 x hx).1; omega, rfl, hw, fun hb => ?_, trivial⟩
      · simp only at hb; subst hb; cases hv; rfl
    | ch =>
      have hx : pCh C ⟨o, m, .ch, ks⟩ b (pass C is) i k fr h fs = some R := hx
      unfold pCh at hx
      simp only at hx
      split at hx
      case h_2 => cases hx
      rename_i v h' hv
      obtain ⟨R', g1, rfl⟩ := addH_some hx
      have hp := pass_spec C is (i + 1) (k + 1) _ h' fs R' hfs' g1
      obtain ⟨fs2, f1, f2, f3, f4, f5⟩ := hp.fs
      refine ⟨by simp [hp.len], rfl, by simp only [List.length_cons, hp.hlen, kA]; simp only [kNext]; omega, ⟨fs2, f1, fun x hx => ?_, f3, f4, f5⟩, ⟨rfl, hp.lk⟩, fun j inf' hj => ?_⟩
      · obtain ⟨g1, inf', g2, g3⟩ := f2 x hx
        refine ⟨by omega, inf', ?_, g3⟩
        have : x.1 - i = (x.1 - (i + 1)) + 1 := by omega
        rw [this]; simpa using g2
      · cases j with
        | zero =>
          simp at hj
          subst hj
          refine ⟨⟨o.dst, v, fr, b⟩, rfl, ?_⟩
          rw [kA_zero]
          refine ⟨fs, fs2, f1, fun x hx => by have := (f2 x hx).1; omega, rfl, hw, fun hb => ?_, h, h', rfl, by simpa using hp.head, ?_⟩
          · simp only at hb; subst hb; cases hv; rfl
          · cases b with
            | true => exact hv
            | false => cases hv; rfl
        | succ j =>
          obtain ⟨r, g1, g2⟩ := hp.rows j inf' (by simpa using hj)
          refine ⟨r, by simpa using g1, ?_⟩
          have e1 : i + (j + 1) = i + 1 + j := by omega
          have e2 : kA (⟨o, m, .ch, ks⟩ :: is) (j + 1) = kA is j + 1 := by simp only [kA, kNext]; omega
          have e3 : k + (kA is j + 1) = k + 1 + kA is j := by omega
          rw [e1, e2, e3]
          exact rowC_later g2
    | fre =>
      have hx : pFre C ⟨o, m, .fre, ks⟩ b (pass C is) i k fr h fs = some R := hx
      unfold pFre at hx
      simp only at hx
      split at hx
      case h_2 => cases hx
      rename_i v hf hv
      rw [cond_eq_if, ble_dec] at hx
      split at hx
      case isFalse => cases hx
      rename_i hle
      simp only [decide_eq_true_eq] at hle
      obtain ⟨R', g1, rfl⟩ := add_some hx
      rw [ap_eq] at g1
      have hp := pass_spec C is (i + 1) k _ h _ R' (fun x hx => by
        rcases List.mem_append.1 hx with hx | hx
        · exact hfs' x hx
        · simp at hx; subst hx; simp) g1
      obtain ⟨fs2, f1, f2, f3, f4, f5⟩ := hp.fs
      have hid : freId C fs = C.n0 + C.s0 * (fs.length + 0 + 1) := by
        show C.n0 + C.s0 * (ln fs + 1) = _
        rw [ln_eq]
      refine ⟨by simp [hp.len], hp.head, by simp only [List.length_cons, hp.hlen, kA]; simp only [kNext]; omega, ⟨(i, freId C fs, hf.get (freId C fs)) :: fs2, by rw [f1]; simp, fun x hx => ?_, ?_, fun q x hq => ?_, by simp only [List.length_cons, f5]; rfl⟩, ⟨rfl, hp.lk⟩, fun j inf' hj => ?_⟩
      · rcases List.mem_cons.1 hx with rfl | hx
        · exact ⟨Nat.le_refl _, _, by simp; rfl, rfl⟩
        · obtain ⟨g1, inf', g2, g3⟩ := f2 x hx
          refine ⟨by omega, inf', ?_, g3⟩
          have : x.1 - i = (x.1 - (i + 1)) + 1 := by omega
          rw [this]; simpa using g2
      · refine List.pairwise_cons.2 ⟨fun y hy => ?_, f3⟩
        have := (f2 y hy).1
        show i < y.1
        omega
      · cases q with
        | zero => simp at hq; subst hq; exact hid
        | succ q =>
          have := f4 q x (by simpa using hq)
          rw [this]
          simp only [List.length_append, List.length_singleton]
          congr 2
          omega
      · cases j with
        | zero =>
          simp at hj
          subst hj
          refine ⟨⟨o.dst, v, fr, b⟩, rfl, ?_⟩
          rw [kA_zero]
          refine ⟨fs, (i, freId C fs, hf.get (freId C fs)) :: fs2, by rw [f1]; simp, fun x hx => ?_, rfl, hw, fun hb => ?_, freId C fs, hf, by rw [f1]; simp, hle, ?_⟩
          · rcases List.mem_cons.1 hx with rfl | hx
            · exact Nat.le_refl _
            · have := (f2 x hx).1; omega
          · simp only at hb; subst hb; cases hv; rfl
          · cases b with
            | true => exact hv
            | false => cases hv; rfl
        | succ j =>
          obtain ⟨r, g1, g2⟩ := hp.rows j inf' (by simpa using hj)
          refine ⟨r, by simpa using g1, ?_⟩
          have e1 : i + (j + 1) = i + 1 + j := by omega
          have e2 : kA (⟨o, m, .fre, ks⟩ :: is) (j + 1) = kA is j := by simp only [kA, kNext]; omega
          rw [e1, e2]
          exact g2
end
end Go.Proofs.YtfaemheimmndgaaGreatDoor.XI
