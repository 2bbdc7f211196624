/- Drawn regions: joined; every run that the reckoning answers is one of the model. Part of a verified reckoner of runs: no condition. -/
import Derived.Test.YtfaemheimmndgaaGreatDoorXW
set_option linter.unusedVariables false
set_option linter.unusedSimpArgs false
namespace Go.Proofs.YtfaemheimmndgaaGreatDoor.XI
noncomputable section

/-! ### 18. Drawn regions: joined -/
section
variable {C : Cx} {is : List Inf} {R : RS} {fr0 : Fr} {F : Nat}
variable {M : Mem} {σ0 σ σ' : Nat → Loc} {A0 A A' : Nat → Prop} {w0 w w' : World} {h0 hk hk' hp hp' : H} {n k k' i : Nat} {D D' : Nat → Bool} {a : Act} {inf : Inf} {row : Row} {u : Value}

theorem getD_set (l : Array Bool) {i : Nat} (hi : i < l.size) (t : Nat) : (l.setIfInBounds i true).getD t false = true ↔ t = i ∨ l.getD t false = true := by
  rw [Array.getD_eq_getD_getElem?, Array.getD_eq_getD_getElem?]
  by_cases h : t = i
  · subst h; simp [hi]
  · rw [Array.getElem?_setIfInBounds_ne (fun e => h e.symm)]
    simp [h]

theorem any_ok (pf : PF C is R fr0 F) (ok : C.E.Ok) (hc : CallOk C.E M C.call) (j0 : J0 C A0 h0) {ops : Array Oper} (hall : C.all = ops.toList) (hlen : is.length = ops.size)
    (hops : ∀ (i : Nat) (inf : Inf), is[i]? = some inf → ops[i]? = some inf.o) (hdst : ops.toList.all (fun o => dstOk n o.dst) = true) {Q : Exit → Act → World → Prop} {ds : List Deferred} {r : Option Nat}
    (hfin : ∀ (D : Nat → Bool) (k : Nat) (hk : H) (a : Act) (w : World) (σ : Nat → Loc) (A : Nat → Prop), (∀ t, t < is.length → D t = true) → J C is R fr0 M σ0 A0 w0 h0 n D k hk a w σ A → a.defers = ds → Q .normal a w) :
    ∀ (fuel : Nat) (listed : Array Bool) (k : Nat) (hk : H) (a : Act) (w : World) (σ : Nat → Loc) (A : Nat → Prop), listed.size = ops.size → listed.toList.count false ≤ fuel →
      J C is R fr0 M σ0 A0 w0 h0 n (fun t => listed.getD t false) k hk a w σ A → a.defers = ds → wpAnyIn (FR r) 0 C.E.P .any ops Q fuel listed a w := by
  have hall' : ∀ (listed : Array Bool), listed.size = ops.size → Region.ready .any ops listed = [] → ∀ t, t < is.length → listed.getD t false = true := by
    intro listed hsz hr t
    induction t using Nat.strongRecOn with
    | _ t ih =>
      intro ht
      have htl : t < listed.size := by omega
      rw [Array.getD_eq_getD_getElem?, Array.getElem?_eq_getElem htl]
      simp only [Option.getD_some]
      cases hv : listed[t] with
      | true => rfl
      | false =>
        have : t ∈ Region.ready .any ops listed := mem_ready.2 ⟨by rw [Array.getD_eq_getD_getElem?, Array.getElem?_eq_getElem htl]; simpa using hv, is[t].o, hops t _ (List.getElem?_eq_getElem ht), fun e he hb => by
          have hlt := pf.back t _ (List.getElem?_eq_getElem ht) e (by simpa using he) hb
          exact ih e.on hlt (by omega)⟩
        rw [hr] at this
        cases this
  intro fuel
  induction fuel with
  | zero =>
    intro listed k hk a w σ A hsz hcnt j hds
    have hno : ∀ x ∈ listed.toList, x = true := fun x hx => by
      have h0 : listed.toList.count false = 0 := by omega
      cases x with
      | true => rfl
      | false => exact absurd hx (List.count_eq_zero.1 h0)
    have hall2 : ∀ t, t < is.length → listed.getD t false = true := fun t ht => by
      have htl : t < listed.size := by omega
      rw [Array.getD_eq_getD_getElem?, Array.getElem?_eq_getElem htl]
      exact hno _ (by simp)
    refine ⟨?_, hfin _ k hk a w σ A hall2 j hds⟩
    cases hr : Region.ready .any ops listed with
    | nil => rfl
    | cons i l =>
      have hi : i ∈ Region.ready .any ops listed := by rw [hr]; simp
      obtain ⟨h1, o, h2, _⟩ := mem_ready.1 hi
      have hil : i < listed.size := by have := (Array.getElem?_eq_some_iff.1 h2).1; omega
      rw [Array.getD_eq_getD_getElem?, Array.getElem?_eq_getElem hil] at h1
      have := hno listed[i] (by simp)
      simp [this] at h1
  | succ fuel ih =>
    intro listed k hk a w σ A hsz hcnt j hds
    refine ⟨fun hr => hfin _ k hk a w σ A (hall' listed hsz hr) j hds, fun i hi => ?_⟩
    obtain ⟨h1, o, h2, h3⟩ := mem_ready.1 hi
    have hil : i < listed.size := by have := (Array.getElem?_eq_some_iff.1 h2).1; omega
    have hiv : listed[i] = false := by
      rw [Array.getD_eq_getD_getElem?, Array.getElem?_eq_getElem hil] at h1
      simpa using h1
    have hii : is[i]? = some is[i] := List.getElem?_eq_getElem (by omega)
    have hoi := hops i _ hii
    rw [h2] at hoi
    have ho := Option.some.inj hoi
    have hDi : listed.getD i false = false := by rw [Array.getD_eq_getD_getElem?, Array.getElem?_eq_getElem hil]; simpa using hiv
    have hdep : ∀ t, tb is[i].m t = true → listed.getD t false = true := by
      intro t ht
      obtain ⟨e, g1, g2, g3⟩ := pf.dep i _ hii t ht
      have hl : listed.getD e.on false = true := h3 e (by rw [ho]; simpa using g1) g2
      rcases g3 with rfl | ⟨inf', g4, g5⟩
      · exact hl
      · exact j.clo e.on inf' g4 hl t g5
    refine j.op pf ok hc j0 hall hii (by rw [h2, ho]) hDi hdep (D' := fun t => (listed.setIfInBounds i true).getD t false) (getD_set listed hil) (fun t ht => ?_) fun a' w' σ' A' k' hk' j' hd' => ?_
    · rw [List.all_eq_true] at hdst
      exact dstOk_lt (hdst is[i].o (by rw [← ho]; exact Array.mem_toList_iff.2 (Array.mem_of_getElem? h2))) t ht
    · refine ih (listed.setIfInBounds i true) k' hk' a' w' σ' A' (by simpa using hsz) ?_ j' (hd'.trans hds)
      rw [Array.toList_setIfInBounds]
      have hil' : i < listed.toList.length := by simpa using hil
      rw [List.count_set hil']
      simp only [Array.getElem_toList, hiv]
      have : 0 < listed.toList.count false := List.count_pos_iff.2 (by rw [← hiv]; simp)
      show _ - (if (false == false) = true then 1 else 0) + (if (true == false) = true then 1 else 0) ≤ fuel
      have e1 : (if (false == false) = true then 1 else 0) = 1 := rfl
      have e2 : (if (true == false) = true then 1 else 0) = 0 := rfl
      rw [e1, e2]
      omega

theorem lt_of_is {t : Nat} (h : is[t]? = some inf) : t < is.length := (List.getElem?_eq_some_iff.1 h).1

theorem J.finish (pf : PF C is R fr0 F) (j0 : J0 C A0 h0) (hF : nFre is = F) (j : J C is R fr0 M σ0 A0 w0 h0 n D k hk a w σ A) (hD : ∀ t, t < is.length → D t = true) {g : H} (hg : R.hs[C.cms.length]? = some g) :
    Step σ0 A0 w0 h0 σ A w (endH C h0.wb F g R.fs) ∧ RelA σ A M R.fr a ∧ RelH σ A M w (endH C h0.wb F g R.fs) := by
  have hk1 : k = C.cms.length := by
    have hle : k ≤ C.cms.length := by have := (List.getElem?_eq_some_iff.1 j.hat).1; rw [pf.hlen] at this; omega
    rcases Nat.lt_or_ge k C.cms.length with h | h
    · obtain ⟨inf, h1, _⟩ := pf.cat (List.getElem?_eq_getElem h)
      have := (j.chn k _ (List.getElem?_eq_getElem h)).1 (hD _ (lt_of_is h1))
      omega
    · omega
  subst hk1
  have hgk : hk = g := by have := j.hat; rw [hg] at this; cases this; rfl
  subst hgk
  have hfre : ∀ x ∈ R.fs, D x.1 = true := fun x hx => by obtain ⟨inf, h1, _⟩ := pf.fre x hx; exact hD _ (lt_of_is h1)
  obtain ⟨e1, e2, e3⟩ := gD_same (C := C) (R := R) (D := D) (k := C.cms.length) (hk := hk)
  have hget : ∀ b, (endH C h0.wb F hk R.fs).get b = (gD C R D C.cms.length hk).get b := by
    intro b
    show (hput (fun f => unm C.cms (ln C.cms) f) hk R.fs).get b = _
    refine hput_congr R.fs hk hk (fun f x hx => ?_) rfl
    have := hfre _ hx
    simp only at this
    rw [this, ln_eq]
    rfl
  obtain ⟨nx, hnx1, hnx2, hnx3, hnx4⟩ : ∃ nx, (endH C h0.wb F hk R.fs).next = nx ∧ hk.next ≤ nx ∧ nx % C.s0 = C.n0 % C.s0 ∧ (0 < F → C.n0 + C.stm ≤ nx) := by
    obtain ⟨q1, _, _⟩ := hput_same (fun f => unm C.cms (ln C.cms) f) R.fs hk
    have hmod : hk.next % C.s0 = C.n0 % C.s0 := pf.mod j.nmod
    cases F with
    | zero => exact ⟨_, rfl, by show hk.next ≤ (hput _ hk R.fs).next; omega, by show (hput _ hk R.fs).next % C.s0 = _; rw [q1]; exact hmod, fun h => absurd h (by omega)⟩
    | succ F =>
      refine ⟨_, rfl, ?_, ?_, fun _ => ?_⟩
      · show hk.next ≤ maxN (hput _ hk R.fs).next (C.n0 + C.stm)
        unfold maxN
        rw [q1, cond_ble]
        split <;> omega
      · show maxN (hput _ hk R.fs).next (C.n0 + C.stm) % C.s0 = _
        unfold maxN
        rw [q1, cond_ble]
        split
        · rw [pf.stm, Nat.add_mul_mod_self_left]
        · exact hmod
      · show C.n0 + C.stm ≤ maxN (hput _ hk R.fs).next (C.n0 + C.stm)
        unfold maxN
        rw [q1, cond_ble]
        split <;> omega
  have hst : (endH C h0.wb F hk R.fs).st = C.s0 := rfl
  have hwb : (endH C h0.wb F hk R.fs).wb = h0.wb := rfl
  have hidlt : ∀ x ∈ R.fs, C.n0 < x.2.1 ∧ x.2.1 < nx := fun x hx => by
    obtain ⟨h1, h2⟩ := pf.idlt hx
    obtain ⟨q, hq, _⟩ := pf.ids x hx
    have := hnx4 (by omega)
    omega
  have hn0 : C.n0 ≤ nx := by have := j.next0; omega
  have rG : RelH σ A M w (endH C h0.wb F hk R.fs) := by
    refine j.rel.part (fun b x e => by rw [← hget]; exact e) (fun b hb => ?_) (by rw [hwb, hnx1]; have := j0.wb; have := j0.n0; omega) (by rw [hst]; exact pf.pos)
    rw [hnx1, hst, hnx3]
    rcases j.nums b hb with h | ⟨x, hx, e, hd⟩ | ⟨h1, h2, h3⟩
    · rcases j0.bound b h with h | h
      · rw [← j0.n0] at h; exact .inl (by omega)
      · rw [← j0.n0, ← j0.s0] at h; exact .inr h
    · rw [← e]; exact .inl (hidlt x hx).2
    · exact .inl (by omega)
  have hOwn : ∀ q, Own σ (endH C h0.wb F hk R.fs) q → Own σ (gD C R D C.cms.length hk) q := fun q ⟨b, x, e, l, hq⟩ => ⟨b, x, by rw [← hget]; exact e, l, hq⟩
  refine ⟨⟨j.mv.agree, fun b hb => ?_, j.mv.os, j.mv.tape, j.mv.output, j.mv.size, j.mv.keep, fun q o => j.mv.own q (hOwn q o), ?_, hwb, fun b hb => by rw [hget]; exact j.low b hb, ?_, ?_, fun b hb => ?_⟩, ?_, rG⟩
  · rw [hnx1]
    rw [← j0.n0, ← j0.s0]
    rcases j.nums b hb with h | ⟨x, hx, e, hd⟩ | ⟨h1, h2, h3⟩
    · exact .inl h
    · rw [← e]
      have := hidlt x hx
      exact .inr ⟨by omega, this.2, pf.idS hx⟩
    · exact .inr ⟨h1, by omega, pf.mod h3⟩
  · rw [hnx1, ← j0.n0]; exact hn0
  · rw [hst, j0.s0]
  · rw [hnx1, ← j0.s0, hnx3, j0.n0]
  · rw [hget, ← j0.n0, ← j0.s0]
    exact j.only b hb
  · refine RelA.congr (fun t => ?_) j.fr
    rw [pf.lk.endF (S := D) 0 (fun q hq => by rw [Nat.zero_add]; exact hD q (by rw [← pf.len]; exact hq))]

theorem draw_core {E : Env} (ok : E.Ok) (hm : E.P.follows .mixedOrders = true) {call : CallF} (hc : CallOk E M call) {n id : Nat} {ops : Array Oper} (hdst : ops.toList.all (fun o => dstOk n o.dst) = true) {p : Plan} (hplan : planOk ops.toList p = true)
    (pl1 : p.is.length = ops.toList.length) (pl2 : ∀ (j : Nat) (inf : Inf), p.is[j]? = some inf → ops.toList[j]? = some inf.o ∧
      ∀ t, tb inf.m t = true → ∃ e ∈ inf.o.after.toList, Region.binds .any e = true ∧ (e.on = t ∨ ∃ inf', p.is[e.on]? = some inf' ∧ tb inf'.m t = true))
    {fr : Fr} {h : H} {R : RS} (hps : PassS ⟨E, call, ops.toList, p.cms, h.next, h.st, Nat.mul h.st (Nat.succ (nFre p.is))⟩ p.is 0 0 fr ⟨h.t, h.next, h.wb, Nat.mul h.st (Nat.succ (nFre p.is))⟩ [] R)
    (hrd : ∀ (j : Nat) (inf : Inf) (row : Row), p.is[j]? = some inf → R.rows[j]? = some row → inf.k = .rd → row.b = true → ∀ k ∈ inf.ks, ∃ g, R.hs[k]? = some g ∧ rdo inf.o.op E row.fr (hputA p.cms inf.m k g R.fs) = some row.v)
    {gE : H} (hgE : R.hs[p.cms.length]? = some gE) {rb : Option Nat} :
    ∀ (B : Nat) (r : Option Nat) (σ : Nat → Loc) (A : Nat → Prop) (w : World) (a : Act) (Q : Exit → Act → World → Prop),
    B ≤ w.heap.size → RC σ A r rb → RelA σ A M fr a → RelH σ A M w h → a.tmps.size = n → DG B σ h w a →
    OutOk B σ A M w h n Q (.nor R.fr (endH ⟨E, call, ops.toList, p.cms, h.next, h.st, Nat.mul h.st (Nat.succ (nFre p.is))⟩ h.wb (nFre p.is) gE R.fs)) → (Code.region id ops true).wpIn (FR r) 0 E.P Q a w := by
  intro B r σ A w a Q hB rc ra rh hn dg g
  unfold planOk at hplan
  rw [cond_eq_if] at hplan
  split at hplan
  case isFalse => cases hplan
  rename_i hpS
  obtain ⟨ps1, ps2⟩ := planS_spec _ _ _ _ _ hpS
  have hchain := chainOk_spec _ hplan
  obtain ⟨fs2, f1, f2, f3, f4, f5⟩ := hps.fs
  rw [List.nil_append] at f1
  subst f1
  have hst : ∀ m, Nat.mul h.st (Nat.succ m) = h.st * (m + 1) := fun m => rfl
  have hidm : ∀ (q : Nat) (x : Nat × Nat × Option ABlk), R.fs[q]? = some x → x.2.1 = h.next + h.st * (q + 1) := fun q x hq => by
    have := f4 q x hq
    simpa using this
  let C : Cx := ⟨E, call, ops.toList, p.cms, h.next, h.st, Nat.mul h.st (Nat.succ (nFre p.is))⟩
  have pf : PF C p.is R fr (nFre p.is) := by
    refine ⟨hps.len, fun i inf hi => (pl2 i inf hi).2, fun i inf hi => by have := (ps2 i inf hi).1; simpa using this, fun i inf hi e he hb => ?_, fun i j x y hx hy hij hcl => ?_, fun i inf hi => by have := (ps2 i inf hi).2.2.2; simpa using this, by simpa using ps1, hchain, fun x hx => ?_, ?_, f3, fun x hx => ?_, rfl, rh.pos, hps.lk, fun i inf hi => by have := hps.rows i inf hi; rw [Nat.zero_add, Nat.zero_add] at this; exact this, hrd, ?_⟩
    · have := (ps2 i inf hi).2.1
      unfold backOk at this
      rw [al_eq, List.all_eq_true] at this
      have := this e he
      rw [hb] at this
      have : Nat.ble (Nat.succ e.on) (0 + i) = true := this
      rw [Nat.zero_add] at this
      exact Nat.le_of_ble_eq_true this
    · have := (ps2 i x hx).2.2.1
      unfold laterOk at this
      rw [al_eq, List.all_eq_true] at this
      have hmem : y ∈ p.is.drop (i + 1) := List.mem_of_getElem? (i := j - (i + 1)) (by rw [List.getElem?_drop, show i + 1 + (j - (i + 1)) = j by omega]; exact hy)
      have := this y hmem
      rw [show clash ops.toList x.o y.o = true from hcl] at this
      have : tb y.m (0 + i) = true := this
      rwa [Nat.zero_add] at this
    · obtain ⟨q, hq⟩ := List.mem_iff_getElem?.1 hx
      refine ⟨q, ?_, hidm q x hq⟩
      rw [← f5]
      exact (List.getElem?_eq_some_iff.1 hq).1
    · unfold List.Nodup
      rw [List.pairwise_map, List.pairwise_iff_getElem]
      intro q r hq hr hlt he
      have e1 := hidm q _ (List.getElem?_eq_getElem hq)
      have e2 := hidm r _ (List.getElem?_eq_getElem hr)
      rw [e1, e2] at he
      have := Nat.mul_lt_mul_of_pos_left (show q + 1 < r + 1 by omega) rh.pos
      omega
    · obtain ⟨_, inf, h1, h2⟩ := f2 x hx
      exact ⟨inf, by simpa using h1, h2⟩
    · have := hps.hlen
      rw [this]
      have h2 := ps1
      rw [Nat.zero_add] at h2
      rw [h2]
  have j0 : J0 C A h := ⟨rfl, rfl, rh.bound, rh.wb⟩
  have hget0 : ∀ b, (gD C R (fun t => (Array.replicate ops.size false).getD t false) 0 ⟨h.t, h.next, h.wb, C.stm⟩).get b = h.get b := fun b => by
    rw [gD_out (fun f y hx hd => ?_)]
    · rfl
    · simp only [Array.getD_eq_getD_getElem?, Array.getElem?_replicate] at hd
      split at hd <;> cases hd
  have hfalse : ∀ t, (Array.replicate ops.size false).getD t false = false := fun t => by
    simp only [Array.getD_eq_getD_getElem?, Array.getElem?_replicate]
    split <;> rfl
  obtain ⟨e1, e2, e3⟩ := gD_same (C := C) (R := R) (D := fun t => (Array.replicate ops.size false).getD t false) (k := 0) (hk := ⟨h.t, h.next, h.wb, C.stm⟩)
  have rh' := rh.drew
  have j : J C p.is R fr M σ A w.drew h n (fun t => (Array.replicate ops.size false).getD t false) 0 ⟨h.t, h.next, h.wb, C.stm⟩ a w.drew σ A := by
    refine ⟨hps.head, ?_, ?_, Nat.le_refl _, rfl, rfl, rfl, fun q c hc => ?_, fun i inf hi hd => ?_, fun b hb => .inl hb, fun x hx hu => ?_, fun b hb => hget0 b, fun b hb => .inl (by rw [hget0]; exact hb), ?_, hn⟩
    · rw [rowsF_none _ _ _ (fun q hq => hfalse _)]; exact ra
    · refine rh'.part (fun b x e => by rw [hget0] at e; exact e) (fun b hb => ?_) ?_ ?_
      · rw [e1, e3]
        rcases rh.bound b hb with h1 | h1
        · exact .inl h1
        · exact .inr fun e => h1 (pf.mod e)
      · rw [e1, e2]; exact rh.wb
      · rw [e3]; exact pf.posm
    · simp only [hfalse]
      constructor
      · intro e; cases e
      · intro e; omega
    · simp only [hfalse] at hd; cases hd
    · cases e : H.get ⟨h.t, h.next, h.wb, C.stm⟩ x.2.1 with
      | none => rfl
      | some y =>
        have hA := rh.dom _ y (show h.get x.2.1 = some y from e)
        have h1 := (pf.idlt hx).1
        have h2 := pf.idS hx
        rcases rh.bound _ hA with h3 | h3
        · have h1 : h.next < x.2.1 := h1; omega
        · exact absurd h2 h3
    · have hOwn : ∀ q, Own σ (gD C R (fun t => (Array.replicate ops.size false).getD t false) 0 ⟨h.t, h.next, h.wb, C.stm⟩) q → Own σ h q := fun q ⟨b, x, e, l, hq⟩ => ⟨b, x, by rw [← hget0]; exact e, l, hq⟩
      exact ⟨fun _ a => ⟨a, rfl⟩, rfl, rfl, rfl, Nat.le_refl _, fun _ _ _ => rfl, fun q o => .inl (hOwn q o)⟩
  refine wpIn_region_any hm (any_ok pf ok hc j0 rfl (by rw [pl1]; simp) (fun i inf hi => by have := (pl2 i inf hi).1; rwa [Array.getElem?_toList] at this) hdst (fun D k hk a' w' σ' A' hD j' hds => ?_) ops.size (Array.replicate ops.size false) 0 _ a w.drew σ A (by simp) ?_ j rfl)
  · obtain ⟨s1, s2, s3⟩ := j'.finish pf j0 rfl hD hgE
    exact g a' w' σ' A' ((Step.drew σ A w h).trans s1) s2 s3 j'.size (dg.step ((Step.drew σ A w h).trans s1) hds)
  · simp

theorem draw_ok {E : Env} (ok : E.Ok) (hm : E.P.follows .mixedOrders = true) {call : CallF} (hc : CallOk E M call) (n : Nat) : DrawOk E M n (drawA E call) := by
  intro id ops hdst rb B r σ A w h fr a Q hB rc ra rh hn dg g
  have g : OutOk B σ A M w h n Q (drawPlan E call ops.toList (planOf E ops.toList) fr h) := g
  unfold drawPlan at g
  obtain ⟨pl1, pl2⟩ := plan_spec E ops.toList
  generalize planOf E ops.toList = p at g pl1 pl2
  rw [cond_eq_if] at g
  split at g
  case isFalse => exact g.elim
  rename_i hplan
  unfold drawRun at g
  simp only at g
  split at g
  case h_1 => exact g.elim
  rename_i R hpass
  rw [cond_eq_if] at g
  split at g
  case isFalse => exact g.elim
  rename_i hrds
  split at g
  case h_2 => exact g.elim
  rename_i gE hgE
  rw [nt_eq, ln_eq] at hgE
  have hps := pass_spec _ _ _ _ _ _ _ _ (by simp) hpass
  exact draw_core ok hm hc hdst hplan pl1 pl2 hps (fun j inf row h1 h2 h3 h4 k hk => rdSame_spec (rdsOk_spec _ _ hrds j inf row h1 h2 h3) h4 hk) hgE B r σ A w a Q hB rc ra rh hn dg g
end

/-- Calls, drawn regions and all. -/
theorem run_ok {E : Env} {M : Mem} (ok : E.Ok) (hm : E.P.follows .mixedOrders = true) (N d : Nat) : CallOk E M (callN E (drawA E) N d) := callN_ok ok (fun call hc n => draw_ok ok hm hc n) N d
end
end Go.Proofs.YtfaemheimmndgaaGreatDoor.XI
