/- Calls that are told. Part of a verified reckoner of runs: no condition. -/
import Derived.Test.YtfaemheimmndgaaGreatDoorXZ
set_option linter.unusedVariables false
set_option linter.unusedSimpArgs false
namespace Go.Proofs.YtfaemheimmndgaaGreatDoor.XI
noncomputable section

/-! ### 21. Calls that were reckoned by themselves -/
section
variable {σ σ' σ'' : Nat → Loc} {A A' A'' : Nat → Prop} {M : Mem} {w w' w'' : World} {g g' g'' h h' : H}

theorem dead_live {x : ABlk} (e : x = .dead) (l : x.live = true) : False := by subst e; cases l

theorem frame_of (r : RelH σ A M w g) (hs : ∀ b x, h.get b = some x → g.get b = some x) (s : Step σ A w h σ' A' w' h') (r' : RelH σ' A' M w' h')
    (hcase : ∀ b x, g'.get b = some x → h'.get b = some x ∨ (x = .dead ∧ A' b) ∨ (h.get b = none ∧ h'.get b = none ∧ g.get b = some x))
    (hb : ∀ b, A' b → b < g'.next ∨ b % g'.st ≠ g'.next % g'.st) (hw : g'.wb ≤ g'.next) (hp : 0 < g'.st) :
    Mv σ A w g σ' A' w' g' ∧ RelH σ' A' M w' g' := by
  have hOwn : ∀ k, Own σ h k → Own σ g k := fun k ⟨b, x, e, l, hk⟩ => ⟨b, x, hs b x e, l, hk⟩
  have hhid : ∀ b x, h.get b = none → g.get b = some x → x.live = true → ¬ Own σ h (σ b).blk := by
    rintro b x hn e l ⟨c, y, ec, lc, hk⟩
    have hne : c ≠ b := fun e' => by rw [e', hn] at ec; cases ec
    exact r.inj c y b x (hs c y ec) e lc l hne hk
  have hhid' : ∀ b x, h.get b = none → g.get b = some x → x.live = true → ¬ Own σ' h' (σ b).blk := by
    intro b x hn e l o
    rcases s.own _ o with h1 | h1
    · exact hhid b x hn e l h1
    · have := (r.blk b x e).lt l
      omega
  refine ⟨⟨s.agree, s.os, s.tape, s.output, s.size, fun k hk ho => s.keep k hk (fun o => ho (hOwn k o)), fun k o => ?_⟩, ⟨hb, fun b x e => ?_, fun b x e => ?_, fun b x b' x' e e' l l' hne => ?_, fun a v hM => ⟨?_, fun b x e l => ?_⟩, hw, hp⟩⟩
  · obtain ⟨b, x, e, l, rfl⟩ := o
    rcases hcase b x e with h1 | ⟨hd, _⟩ | ⟨h1, h2, h3⟩
    · exact (s.own _ ⟨b, x, h1, l, rfl⟩).imp (hOwn _) id
    · exact (dead_live hd l).elim
    · rw [(s.agree b (r.dom b x h3)).2]
      exact .inl ⟨b, x, h3, l, rfl⟩
  · rcases hcase b x e with h1 | ⟨_, hA⟩ | ⟨h1, h2, h3⟩
    · exact r'.dom b x h1
    · exact hA
    · exact (s.agree b (r.dom b x h3)).1
  · rcases hcase b x e with h1 | ⟨hd, hA⟩ | ⟨h1, h2, h3⟩
    · exact r'.blk b x h1
    · subst hd; trivial
    · exact RelB.move s.agree (r.dom b x h3) (fun l => s.keep _ ((r.blk b x h3).lt l) (hhid b x h1 h3 l)) (r.blk b x h3)
  · rcases hcase b x e with h1 | ⟨hd, _⟩ | ⟨h1, h2, h3⟩
    · rcases hcase b' x' e' with h1' | ⟨hd', _⟩ | ⟨h1', h2', h3'⟩
      · exact r'.inj b x b' x' h1 h1' l l' hne
      · exact (dead_live hd' l').elim
      · rw [(s.agree b' (r.dom b' x' h3')).2]
        intro hk
        exact hhid' b' x' h1' h3' l' ⟨b, x, h1, l, hk⟩
    · exact (dead_live hd l).elim
    · rcases hcase b' x' e' with h1' | ⟨hd', _⟩ | ⟨h1', h2', h3'⟩
      · rw [(s.agree b (r.dom b x h3)).2]
        intro hk
        exact hhid' b x h1 h3 l ⟨b', x', h1', l', hk.symm⟩
      · exact (dead_live hd' l').elim
      · rw [(s.agree b (r.dom b x h3)).2, (s.agree b' (r.dom b' x' h3')).2]
        exact r.inj b x b' x' h3 h3' l l' hne
  · exact (r'.stay a v hM).1
  · rcases hcase b x e with h1 | ⟨hd, _⟩ | ⟨h1, h2, h3⟩
    · exact (r'.stay a v hM).2 b x h1 l
    · exact (dead_live hd l).elim
    · rw [(s.agree b (r.dom b x h3)).2]
      exact (r.stay a v hM).2 b x h3 l
end

/-- A call: function, arguments, what it may look at; its answer, and what that is then. -/
structure Orc where
  f : FuncId
  args : List AV
  hp : List (Nat × ABlk)
  next : Nat
  st : Nat
  z : AV
  hq : List (Nat × ABlk)
  next' : Nat

def eqBlk (x y : ABlk) : Bool := match x, y with
  | .cells xs, .cells ys => eqL (eqAV 8) xs ys
  | .map xs bs ck, .map ys cs cl => cond (eqN bs cs) (cond (Nat.beq ck cl) (cond (eqL (eqAV 8) (mp (fun p => p.1) xs) (mp (fun p => p.1) ys)) (eqL (eqAV 8) (mp (fun p => p.2) xs) (mp (fun p => p.2) ys)) false) false) false
  | _, _ => false
def putAll (t : T ABlk) (bs : List (Nat × ABlk)) : T ABlk := List.rec (motive := fun _ => T ABlk → T ABlk) (fun t => t) (fun x _ ih t => ih (t.put x.1 (some x.2))) bs t
def Orc.part (o : Orc) : H := ⟨putAll .e o.hp, o.next, 0, o.st⟩
/-- Does the block say this? -/
def hasB (h : H) (x : Nat × ABlk) : Bool := match h.get x.1 with | some y => eqBlk y x.2 | none => false
def isDead (x : ABlk) : Bool := match x with | .dead => true | _ => false
def idIn (bs : List (Nat × ABlk)) (b : Nat) : Bool := bNot (al (fun y => bNot (Nat.beq y.1 b)) bs)
/-- What a reckoned call must answer. -/
def Orc.chk (o : Orc) (r : Option (AV × H)) : Bool := match r with
  | some (z, h') => cond (eqAV 8 z o.z) (cond (al (fun x => cond (isDead x.2) (idIn o.hp x.1) (hasB h' x)) o.hq) (cond (Nat.ble h'.next o.next') (cond (Nat.beq (Nat.mod o.next' o.st) (Nat.mod o.next o.st))
      (cond (al (fun x => idIn o.hq x.1) o.hp) (al (fun x => cond (idIn o.hp x.1) true (cond (Nat.ble o.next x.1) (Nat.beq (Nat.mod x.1 o.st) (Nat.mod o.next o.st)) false)) o.hq) false) false) false) false) false
  | none => false
def Orc.use (o : Orc) (args : List AV) (h : H) : Option (AV × H) :=
  cond (Nat.beq o.next h.next) (cond (Nat.beq o.st h.st) (cond (Nat.beq h.wb 0) (cond (eqL (eqAV 8) o.args args) (cond (al (fun x => hasB h x) o.hp) (some (o.z, ⟨putAll h.t o.hq, o.next', h.wb, h.st⟩)) none) none) none) none) none
def orcF (os : List Orc) (f : FuncId) (args : List AV) (h : H) : Option (AV × H) := List.rec (motive := fun _ => Option (AV × H)) none
  (fun o _ ih => cond (Nat.beq o.f f) (match o.use args h with | some r => some r | none => ih) ih) os
def orcs (os : List Orc) : CallF := fun t args h => match t with | .fn f => orcF os f args h | .yl _ => none

/-- Calls, some of them told. -/
def callM (E : Env) (rd : CallF → DrawF) (ov : CallF) (N : Nat) (d : Nat) : CallF := Nat.rec (motive := fun _ => CallF) (fun _ _ _ => none)
  (fun _ ih t args h => match ov t args h with
    | some r => some r
    | none => callT E ih (rd ih) N t args h) d
/-- The one, else the other. -/
def orElse (x y : CallF) : CallF := fun f args h => match x f args h with | some r => some r | none => y f args h

def Orc.True (E : Env) (M : Mem) (o : Orc) : Prop := ∀ args h z h', o.use args h = some (z, h') → CallS E M (.fn o.f) args h z h'

theorem get_putAll (b : Nat) : ∀ (bs : List (Nat × ABlk)) (t : T ABlk), (T.get (putAll t bs) b = T.get t b ∧ ∀ x ∈ bs, x.1 ≠ b) ∨ ∃ x ∈ bs, x.1 = b ∧ T.get (putAll t bs) b = some x.2
  | [], t => .inl ⟨rfl, by simp⟩
  | x :: bs, t => by
    show (T.get (putAll (t.put x.1 (some x.2)) bs) b = T.get t b ∧ _) ∨ ∃ y ∈ x :: bs, y.1 = b ∧ T.get (putAll (t.put x.1 (some x.2)) bs) b = some y.2
    rcases get_putAll b bs (t.put x.1 (some x.2)) with ⟨h1, h2⟩ | ⟨y, hy, h1, h2⟩
    · by_cases e : b = x.1
      · right
        refine ⟨x, by simp, e.symm, ?_⟩
        rw [h1, T.get_put, if_pos e]
      · left
        refine ⟨by rw [h1, T.get_put, if_neg e], fun y hy => ?_⟩
        rcases List.mem_cons.1 hy with rfl | hy
        · exact fun e' => e e'.symm
        · exact h2 y hy
    · exact .inr ⟨y, by simp [hy], h1, h2⟩
theorem eqBlk_eq {x y : ABlk} (h : eqBlk x y = true) : x = y := by
  unfold eqBlk at h
  split at h
  · rw [eqL_eq (eqAV_eq 8) h]
  · rename_i xs bs ck ys cs cl
    rw [cond_eq_if] at h
    split at h
    case isFalse => cases h
    rename_i hbs
    rw [eqN_eq] at hbs
    have hbs : bs = cs := by simpa using hbs
    rw [cond_eq_if, natBeq] at h
    split at h
    case isFalse => cases h
    rename_i hck
    have hck := of_decide_eq_true hck
    subst hbs hck
    clear hbs hck
    rw [cond_eq_if] at h
    split at h
    · rename_i h1
      have h1 := eqL_eq (eqAV_eq 8) h1
      have h2 := eqL_eq (eqAV_eq 8) h
      rw [mp_eq, mp_eq] at h1 h2
      congr 1
      clear h
      rename_i h0
      clear h0
      induction xs generalizing ys with
      | nil => cases ys with
        | nil => rfl
        | cons y ys => simp at h1
      | cons x xs ih => cases ys with
        | nil => simp at h1
        | cons y ys =>
          simp only [List.map_cons, List.cons.injEq] at h1 h2
          rw [ih ys h1.2 h2.2, Prod.ext h1.1 h2.1]
    · cases h
  · cases h
theorem hasB_eq {h : H} {x : Nat × ABlk} (e : hasB h x = true) : h.get x.1 = some x.2 := by
  unfold hasB at e
  split at e
  · rename_i y hy; rw [hy, eqBlk_eq e]
  · cases e
theorem idIn_iff {bs : List (Nat × ABlk)} {b : Nat} : idIn bs b = true ↔ ∃ y ∈ bs, y.1 = b := by
  unfold idIn
  rw [bNot_al]
  simp only [List.any_eq_true, natBeq, decide_eq_true_eq]

theorem orc_true {E : Env} {M : Mem} {o : Orc} {call : CallF} (hc : CallOk E M call) (hk : o.chk (call (.fn o.f) o.args o.part) = true) : o.True E M := by
  intro args h z h2 hu
  unfold Orc.use at hu
  simp only [cond_eq_if] at hu
  split at hu <;> (try (cases hu; done))
  rename_i u1
  split at hu <;> (try (cases hu; done))
  rename_i u2
  split at hu <;> (try (cases hu; done))
  rename_i u3
  split at hu <;> (try (cases hu; done))
  rename_i u4
  split at hu <;> (try (cases hu; done))
  rename_i u5
  cases hu
  rw [natBeq] at u1 u2 u3
  have u1 := of_decide_eq_true u1
  have u2 := of_decide_eq_true u2
  have u3 := of_decide_eq_true u3
  have u4 := eqL_eq (eqAV_eq 8) u4
  rw [al_eq, List.all_eq_true] at u5
  unfold Orc.chk at hk
  split at hk
  case h_2 => cases hk
  rename_i z1 h1 hcall
  simp only [cond_eq_if] at hk
  split at hk <;> (try (cases hk; done))
  rename_i k1
  split at hk <;> (try (cases hk; done))
  rename_i k2
  split at hk <;> (try (cases hk; done))
  rename_i k3
  split at hk <;> (try (cases hk; done))
  rename_i k4
  split at hk <;> (try (cases hk; done))
  rename_i k5
  have k1 := eqAV_eq 8 _ _ k1
  rw [al_eq, List.all_eq_true] at k2 k5 hk
  rw [ble_dec] at k3
  have k3 := of_decide_eq_true k3
  rw [natBeq] at k4
  have k4 : o.next' % o.st = o.next % o.st := of_decide_eq_true k4
  subst k1
  subst u4
  intro σ A w cargs hl rh
  have hle : ∀ b x, o.part.get b = some x → h.get b = some x := by
    intro b x e
    rcases get_putAll b o.hp .e with ⟨e1, _⟩ | ⟨y, hy, e1, e2⟩
    · have : o.part.get b = none := by show T.get (putAll .e o.hp) b = none; rw [e1]; exact T.get_e b
      rw [this] at e; cases e
    · have : o.part.get b = some y.2 := e2
      rw [this] at e
      cases e
      rw [← e1]
      exact hasB_eq (u5 y hy)
  have hpn : o.part.next = h.next := u1
  have hps : o.part.st = h.st := u2
  have rp : RelH σ A M w o.part := rh.part hle (by rw [hpn, hps]; exact rh.bound) (Nat.zero_le _) (by rw [hps]; exact rh.pos)
  refine (hc _ _ _ _ _ hcall σ A w cargs hl rp).mono fun e w' he => ?_
  obtain ⟨v, σ', A', rfl, s, rv, r'⟩ := he
  have hpo : ∀ b, (∃ y ∈ o.hp, y.1 = b) → A' b := fun b ⟨y, hy, e⟩ => by
    rw [← e]
    exact (s.agree _ (rh.dom _ _ (hasB_eq (u5 y hy)))).1
  have hcase : ∀ b x, H.get ⟨putAll h.t o.hq, o.next', h.wb, h.st⟩ b = some x → h1.get b = some x ∨ (x = .dead ∧ A' b) ∨ (o.part.get b = none ∧ h1.get b = none ∧ h.get b = some x) ∨ (o.part.get b = none ∧ h.get b = some x ∧ ∀ y ∈ o.hq, y.1 ≠ b) := by
    intro b x e
    have e : T.get (putAll h.t o.hq) b = some x := e
    rcases get_putAll b o.hq h.t with ⟨e1, e2⟩ | ⟨y, hy, e1, e2⟩
    · rw [e1] at e
      right; right; right
      refine ⟨?_, e, e2⟩
      rcases get_putAll b o.hp .e with ⟨e3, _⟩ | ⟨y, hy, e3, e4⟩
      · show T.get (putAll .e o.hp) b = none
        rw [e3]; exact T.get_e b
      · have := idIn_iff.1 (k5 y hy)
        obtain ⟨q, hq, e5⟩ := this
        exact absurd (e5.trans e3) (e2 q hq)
    · rw [e2] at e
      cases e
      have := k2 y hy
      split at this
      · rename_i hd
        right; left
        refine ⟨?_, hpo b (by rw [← e1]; exact idIn_iff.1 this)⟩
        unfold isDead at hd
        split at hd
        · assumption
        · cases hd
      · left; rw [← e1]; exact hasB_eq this
  -- what isn't told of is as it was
  have hnone : ∀ b x, o.part.get b = none → h.get b = some x → h1.get b = none := by
    intro b x e1 e2
    rcases s.only b e1 with h3 | ⟨h3, h4⟩
    · exact h3
    · rw [hpn] at h3 h4
      rw [hps] at h4
      rcases rh.bound b (rh.dom b x e2) with h5 | h5
      · omega
      · exact absurd h4 h5
  have hmod : h1.next % h.st = h.next % h.st := by have := s.mod; rw [hps, hpn] at this; exact this
  have hnx : h.next ≤ h1.next := by have := s.next; rw [hpn] at this; exact this
  have hst1 : h1.st = h.st := by rw [s.st, hps]
  have hb' : ∀ b, A' b → b < o.next' ∨ b % h.st ≠ o.next' % h.st := by
    intro b hb
    rcases r'.bound b hb with h3 | h3
    · exact .inl (by omega)
    · rw [hst1, hmod] at h3
      right
      rw [← u2, k4, u2, u1]
      exact h3
  obtain ⟨m1, m2⟩ := frame_of (g' := ⟨putAll h.t o.hq, o.next', h.wb, h.st⟩) rh hle s r' (fun b x e => by
    rcases hcase b x e with h3 | h3 | h3 | ⟨h3, h4, _⟩
    · exact .inl h3
    · exact .inr (.inl h3)
    · exact .inr (.inr h3)
    · exact .inr (.inr ⟨h3, hnone b x h3 h4, h4⟩)) hb' (by show h.wb ≤ o.next'; have := rh.wb; omega) rh.pos
  refine ⟨v, σ', A', rfl, ⟨m1.agree, fun b hb => ?_, m1.os, m1.tape, m1.output, m1.size, m1.keep, m1.own, by show h.next ≤ o.next'; omega, rfl, fun b hb => by rw [u3] at hb; omega, rfl, ?_, fun b hb => ?_⟩, rv, m2⟩
  · rcases s.fresh b hb with h3 | ⟨h3, h4, h5⟩
    · exact .inl h3
    · rw [hpn] at h3 h5
      rw [hps] at h5
      exact .inr ⟨h3, by show b < o.next'; omega, h5⟩
  · show o.next' % h.st = h.next % h.st
    rw [← u2, k4, u1]
  · cases e : H.get ⟨putAll h.t o.hq, o.next', h.wb, h.st⟩ b with
    | none => exact .inl rfl
    | some x =>
      right
      have e' : T.get (putAll h.t o.hq) b = some x := e
      rcases get_putAll b o.hq h.t with ⟨e1, e2⟩ | ⟨y, hy, e1, e2⟩
      · have hb : T.get h.t b = none := hb
        rw [e1, hb] at e'; cases e'
      · have := hk y hy
        split at this
        · rename_i hin
          obtain ⟨q, hq, e5⟩ := idIn_iff.1 hin
          have := hasB_eq (u5 q hq)
          rw [e5, e1, hb] at this; cases this
        · split at this
          · rename_i h3
            rw [natBeq] at this
            have h4 : y.1 % o.st = o.next % o.st := of_decide_eq_true this
            rw [e1, u2, u1] at h4
            have h3 := Nat.le_of_ble_eq_true h3
            rw [e1, u1] at h3
            exact ⟨h3, h4⟩
          · cases this

theorem orcF_ok {E : Env} {M : Mem} : ∀ {os : List Orc}, (∀ o ∈ os, o.True E M) → ∀ f args h z h', orcF os f args h = some (z, h') → CallS E M (.fn f) args h z h'
  | [], _, f, args, h, z, h', hx => (nomatch (show (none : Option (AV × H)) = some (z, h') from hx))
  | o :: os, ht, f, args, h, z, h', hx => by
    have hx : cond (Nat.beq o.f f) (match o.use args h with | some r => some r | none => orcF os f args h) (orcF os f args h) = some (z, h') := hx
    have ih := orcF_ok (os := os) (fun o ho => ht o (by simp [ho]))
    rw [cond_eq_if, natBeq] at hx
    split at hx
    · rename_i hf
      have hf := of_decide_eq_true hf
      split at hx
      · rename_i r hr
        cases hx
        rw [← hf]
        exact ht o (by simp) args h z h' hr
      · exact ih f args h z h' hx
    · exact ih f args h z h' hx

theorem orcs_ok {E : Env} {M : Mem} {os : List Orc} (ht : ∀ o ∈ os, o.True E M) : CallOk E M (orcs os) := fun t args h z h' hx => match t, hx with
  | .fn f, hx => orcF_ok ht f args h z h' hx
  | .yl _, hx => (nomatch (show (none : Option (AV × H)) = some (z, h') from hx))

theorem orElse_ok {E : Env} {M : Mem} {x y : CallF} (hx : CallOk E M x) (hy : CallOk E M y) : CallOk E M (orElse x y) := by
  intro f args h z h' e
  unfold orElse at e
  split at e
  · rename_i r hr
    cases e
    exact hx f args h z h' hr
  · exact hy f args h z h' e

theorem callM_ok {E : Env} {M : Mem} (ok : E.Ok) (hm : E.P.follows .mixedOrders = true) {ov : CallF} (ho : CallOk E M ov) (N : Nat) : ∀ d, CallOk E M (callM E (drawA E) ov N d)
  | 0 => fun f args h z h' hx => (nomatch (show (none : Option (AV × H)) = some (z, h') from hx))
  | d + 1 => fun f args h z h' hx => by
    have ih := callM_ok ok hm ho N d
    have hx : (match ov f args h with | some r => some r | none => callT E (callM E (drawA E) ov N d) (drawA E (callM E (drawA E) ov N d)) N f args h) = some (z, h') := hx
    split at hx
    · rename_i r hr
      cases hx
      exact ho f args h z h' hr
    · exact callT_ok ok ih (fun n => draw_ok ok hm ih n) N f args h z h' hx

/-- A run that answers true, over memory that stays. -/
theorem runM_ok {E : Env} {M : Mem} (ok : E.Ok) (hm : E.P.follows .mixedOrders = true) {ov : CallF} (ho : CallOk E M ov) {N d f : Nat} {args : List AV} (h : isT (callM E (drawA E) ov N d (.fn f) args H.empty) = true) (W : World) (hM : ∀ a v, M.cell a = some v → W.cell? a = some v)
    {cargs : Array Value} (hl : RelL (fun _ => default) (fun _ => False) M args cargs.toList) :
    Calls E.P f cargs W fun e W' => e = .returned (.bool true) ∧ W'.os = W.os ∧ W'.tape = W.tape ∧ W'.output = W.output ∧ W.heap.size ≤ W'.heap.size ∧ ∀ k, k < W.heap.size → W'.heap[k]? = W.heap[k]? := by
  cases hx : callM E (drawA E) ov N d (.fn f) args H.empty with
  | none => rw [hx] at h; cases h
  | some p =>
    obtain ⟨z, h'⟩ := p
    rw [hx] at h
    have hz : z = .b true := by
      unfold isT at h
      split at h
      · rename_i heq; cases heq; rfl
      · cases h
    subst hz
    refine (callM_ok ok hm ho N d (.fn f) args H.empty _ h' hx _ _ W cargs hl (relH_start M W hM)).mono fun e W' he => ?_
    obtain ⟨v, σ', A', rfl, s, rv, _⟩ := he
    cases rv
    refine ⟨rfl, s.os, s.tape, s.output, s.size, fun k hk => s.keep k hk ?_⟩
    rintro ⟨b, x, e, _⟩
    have : H.empty.get b = none := T.get_e b
    rw [this] at e; cases e

/-- A closed call leaves whatever there is as it is. -/
theorem closed_told {E : Env} {M : Mem} {f : FuncId} {b : Bool} {h1 : H} (hc : CallS E ⟨fun _ => none, fun _ => none⟩ (.fn f) [] H.empty (.b b) h1) (h : H) : CallS E M (.fn f) [] h (.b b) h := by
  intro σ A w cargs hl rh
  have hl' : RelL (fun _ => default) (fun _ => False) ⟨fun _ => none, fun _ => none⟩ [] cargs.toList := by
    generalize cargs.toList = l at hl
    cases hl
    exact .nil
  refine (hc _ _ w cargs hl' (relH_empty w)).mono fun e w' he => ?_
  obtain ⟨v, σ', A', rfl, s, rv, r'⟩ := he
  have old : ∀ k, k < w.heap.size → w'.heap[k]? = w.heap[k]? := fun k hk => s.keep k hk (by
    rintro ⟨b, x, e, _⟩
    have : H.empty.get b = none := T.get_e b
    rw [this] at e; cases e)
  refine ⟨v, σ, A, rfl, ⟨fun _ a => ⟨a, rfl⟩, fun _ a => .inl a, s.os, s.tape, s.output, s.size, fun k hk _ => old k hk, fun _ o => .inl o, Nat.le_refl _, rfl, fun _ _ => rfl, rfl, rfl, fun _ e => .inl e⟩, ?_,
    ⟨rh.bound, rh.dom, fun b x e => RelB.move (fun _ a => ⟨a, rfl⟩) (rh.dom b x e) (fun l => old _ ((rh.blk b x e).lt l)) (rh.blk b x e), rh.inj, fun a v e => ⟨stay_of rh e (fun k hk _ => old k hk), (rh.stay a v e).2⟩, rh.wb, rh.pos⟩⟩
  cases rv
  exact .b _
theorem isT_some {r : Option (AV × H)} (h : isT r = true) : ∃ h1, r = some (.b true, h1) := by
  unfold isT at h
  split at h
  · exact ⟨_, rfl⟩
  · cases h
end
end Go.Proofs.YtfaemheimmndgaaGreatDoor.XI
