/- Regions, code, calls: that it holds of the model. Part of a verified reckoner of runs: no condition. -/
import Derived.Test.YtfaemheimmndgaaGreatDoorXJ
import Derived.Laws.Sem
import Derived.RangeFuncNested
import Derived.Scope
set_option linter.unusedVariables false
set_option linter.unusedSimpArgs false
namespace Go.Proofs.YtfaemheimmndgaaGreatDoor.XI
noncomputable section

/-! ### 10. What is shown of calls and code -/
/-- No bounds; within a round of loop r, or not. -/
def FR (r : Option Nat) : Fence := { fn := fun _ => True, depth := none, alive := false, round := r }

section
variable {E : Env} {σ σ' σ1 : Nat → Loc} {A A' A1 : Nat → Prop} {M : Mem} {w w' w1 : World} {h h' h1 : H} {n B : Nat} {Q : Exit → Act → World → Prop}

/-- What a call answers. -/
def Ans (σ : Nat → Loc) (A : Nat → Prop) (M : Mem) (w : World) (h : H) (z : AV) (h' : H) (e : Ending) (w' : World) : Prop :=
  ∃ v σ' A', e = .returned v ∧ Step σ A w h σ' A' w' h' ∧ RelV σ' A' M z v ∧ RelH σ' A' M w' h'

/-- A call that is told of. -/
def CallS (E : Env) (M : Mem) (t : Tg) (args : List AV) (h : H) (z : AV) (h' : H) : Prop := match t with
  | .fn f => ∀ (σ : Nat → Loc) (A : Nat → Prop) (w : World) (cargs : Array Value), RelL σ A M args cargs.toList → RelH σ A M w h → Calls E.P f cargs w (Ans σ A M w h z h')
  | .yl b => ∀ (σ : Nat → Loc) (A : Nat → Prop) (w : World) (cargs : Array Value), RelL σ A M args cargs.toList → RelH σ A M w h → A b →
      ∃ f tmps asg body, (Instr.yield (σ b).blk cargs).run E.P w = .ok (.round (σ b).blk f tmps asg body) w ∧ RoundIn Fence.wide 0 E.P (σ b).blk f tmps asg body w (Ans σ A M w h z h')
def CallOk (E : Env) (M : Mem) (call : CallF) : Prop := ∀ t args h z h', call t args h = some (z, h') → CallS E M t args h z h'

/-! The deferred calls of a frame: the marks of its loops. -/
def markOf (k : Nat) : Deferred := { target := .collected k, args := #[] }
/-- Each mark's block is as it was laid, behind block number B, and nobody's. -/
def DG (B : Nat) (σ : Nat → Loc) (h : H) (w : World) (a : Act) : Prop := ∃ ks : List Nat, a.defers = ks.map markOf ∧ ks.Nodup ∧ ∀ k ∈ ks, B ≤ k ∧ w.heap[k]? = some (.deferred (some [])) ∧ ¬ Own σ h k

theorem DG.step {a a' : Act} (s : Step σ A w h σ' A' w' h') (e : a'.defers = a.defers) (d : DG B σ h w a) : DG B σ' h' w' a' := by
  obtain ⟨ks, h1, h2, h3⟩ := d
  refine ⟨ks, e.trans h1, h2, fun k hk => ?_⟩
  obtain ⟨g1, g2, g3⟩ := h3 k hk
  have hlt : k < w.heap.size := (Array.getElem?_eq_some_iff.1 g2).1
  refine ⟨g1, (s.keep k hlt g3).trans g2, fun o => ?_⟩
  rcases s.own k o with h4 | h4
  · exact g3 h4
  · omega
theorem DG.same {a a' : Act} (e : a'.defers = a.defers) (d : DG B σ h w a) : DG B σ h w a' := by
  obtain ⟨ks, h1, h2, h3⟩ := d
  exact ⟨ks, e.trans h1, h2, h3⟩
theorem DG.nil (B : Nat) (σ : Nat → Loc) (h : H) (w : World) (tmps : Array Value) : DG B σ h w { tmps, defers := [] } := ⟨[], rfl, by simp, by simp⟩
theorem defers_put (a : Act) (d : Option Tmp) (v : Value) : (a.put d v).defers = a.defers := by cases d <;> rfl

/-- The rest goes well from each state that these describe. -/
def Goes (B : Nat) (σ : Nat → Loc) (A : Nat → Prop) (M : Mem) (w : World) (h : H) (n : Nat) (K : Act → World → Prop) (fr' : Fr) (h' : H) : Prop :=
  ∀ (a' : Act) (w' : World) (σ' : Nat → Loc) (A' : Nat → Prop), Step σ A w h σ' A' w' h' → RelA σ' A' M fr' a' → RelH σ' A' M w' h' → a'.tmps.size = n → DG B σ' h' w' a' → K a' w'
def OutOk (B : Nat) (σ : Nat → Loc) (A : Nat → Prop) (M : Mem) (w : World) (h : H) (n : Nat) (Q : Exit → Act → World → Prop) : Out → Prop
  | .no => False
  | .nor fr h' => Goes B σ A M w h n (Q .normal) fr h'
  | .ret fr h' => Goes B σ A M w h n (Q .ret) fr h'
  | .ex i fr h' => Goes B σ A M w h n (Q (.exit i)) fr h'

theorem Goes.step (s : Step σ A w h σ1 A1 w1 h1) {K : Act → World → Prop} {fr' : Fr} {h' : H} (g : Goes B σ A M w h n K fr' h') : Goes B σ1 A1 M w1 h1 n K fr' h' :=
  fun a' w' σ' A' s' ra rh hn d => g a' w' σ' A' (s.trans s') ra rh hn d
theorem OutOk.step (s : Step σ A w h σ1 A1 w1 h1) {o : Out} (g : OutOk B σ A M w h n Q o) : OutOk B σ1 A1 M w1 h1 n Q o := by
  cases o with
  | no => exact g
  | nor fr h' => exact Goes.step s g
  | ret fr h' => exact Goes.step s g
  | ex i fr h' => exact Goes.step s g

/-- Within which loop's round the code runs. -/
def RC (σ : Nat → Loc) (A : Nat → Prop) (r : Option Nat) (rb : Option Nat) : Prop := match rb with | none => r = none | some b => A b ∧ r = some (σ b).blk
theorem RC.step {r rb : Option Nat} (hs : ∀ b, A b → A' b ∧ σ' b = σ b) (c : RC σ A r rb) : RC σ' A' r rb := by
  cases rb with
  | none => exact c
  | some b => exact ⟨(hs b c.1).1, by rw [(hs b c.1).2]; exact c.2⟩

def CodeS (E : Env) (M : Mem) (n : Nat) (rb : Option Nat) (c : Code) (x : Fr → H → Out) : Prop :=
  ∀ (B : Nat) (r : Option Nat) (σ : Nat → Loc) (A : Nat → Prop) (w : World) (h : H) (fr : Fr) (a : Act) (Q : Exit → Act → World → Prop),
    B ≤ w.heap.size → RC σ A r rb → RelA σ A M fr a → RelH σ A M w h → a.tmps.size = n → DG B σ h w a → OutOk B σ A M w h n Q (x fr h) → c.wpIn (FR r) 0 E.P Q a w

theorem size_put (a : Act) (d : Option Tmp) (v : Value) : (a.put d v).tmps.size = a.tmps.size := by cases d <;> simp [Act.put]
theorem RelA.move {fr : Fr} {a a' : Act} (hs : ∀ b, A b → A' b ∧ σ' b = σ b) (e : a'.tmps = a.tmps) (ra : RelA σ A M fr a) : RelA σ' A' M fr a' :=
  ⟨fun t v hv => (ra.tmps t v (by rw [← e]; exact hv)).move hs, fun t ht => ra.out t (by rw [← e]; exact ht)⟩

theorem dstOk_lt {n : Nat} {d : Option Tmp} (h : dstOk n d = true) : ∀ t, d = some t → t < n := by
  intro t e
  subst e
  have h : Nat.ble (Nat.succ t) n = true := h
  exact Nat.le_of_ble_eq_true h

/-! #### A region in the order of its text -/
theorem wantedG_ok {all : Array Oper} {fr : Fr} {a : Act} (ra : RelA σ A M fr a) {o : Oper} {b : Bool} (hb : wantedG all.toList fr o.guard = some b) : Region.wanted o (yielded all a.tmps) = b := by
  unfold wantedG at hb
  unfold Region.wanted
  split at hb
  · rename_i hg; cases hb; simp [hg]
  · rename_i j want hg
    simp only [hg]
    rw [nt_eq, Array.getElem?_toList] at hb
    unfold yielded
    cases hj : all[j]? with
    | none => rw [hj] at hb; cases hb; simp
    | some oj =>
      rw [hj] at hb
      simp only at hb
      simp only [Option.bind_some]
      cases hd : oj.dst with
      | none => rw [hd] at hb; cases hb; simp
      | some t =>
        rw [hd] at hb
        simp only at hb
        simp only [Option.bind_some]
        cases ht : a.tmps[t]? with
        | none =>
          rw [ra.out t (Array.getElem?_eq_none_iff.1 ht)] at hb
          cases hb
          simp
        | some v =>
          have hr := ra.tmps t v ht
          cases hf : fr.get t with
          | none =>
            rw [hf] at hb hr
            cases hb
            have hr : RelV σ A M (.tup []) v := hr
            cases hr
            simp
          | some x =>
            rw [hf] at hb hr
            have hr : RelV σ A M x v := hr
            cases hr <;> (try (cases hb; simp; done)) <;> (try (cases hb; done))
            rename_i c
            simp only [Option.some.injEq] at hb
            rw [← hb]
            cases c <;> cases want <;> rfl

theorem opA_ok (ok : E.Ok) {call : CallF} (hc : CallOk E M call) {r : Option Nat} {fr : Fr} {a : Act} (ra : RelA σ A M fr a) (rh : RelH σ A M w h) {o : Oper} {v : AV} {h' : H} (hx : opA E call o.op fr h = some (v, h'))
    {K : Act → World → Prop} (hK : ∀ (u : Value) (w' : World) (σ' : Nat → Loc) (A' : Nat → Prop), Step σ A w h σ' A' w' h' → RelV σ' A' M v u → RelH σ' A' M w' h' → K (a.put o.dst u) w') : o.wpIn (FR r) 0 E.P a w K Q := by
  unfold opA at hx
  refine ⟨fun _ _ => trivial, ?_⟩
  split at hx
  · rename_i v' h1 hy
    cases hx
    obtain ⟨u, w', hr, σ', A', s1, s2, s3⟩ := aop_ok ok rh ra hy
    rw [aop_defer hy]
    rcases hr with hr | ⟨hr, rfl⟩
    · rw [hr]; exact hK _ _ _ _ s1 s2 s3
    · rw [hr]; exact hK _ _ _ _ s1 s2 s3
  · rename_i f xs hy
    obtain ⟨F, hF, cargs, hr, hl⟩ := aop_enter (w := w) ok ra hy
    rw [aop_defer hy, hr]
    refine ⟨fun e => by simp [FR] at e, ?_⟩
    have hcs : CallS E M (.fn f) xs h v h' := hc _ _ _ _ _ hx
    have := callsIn_wide (n := 0).2 ((hcs σ A w cargs hl rh).mono (R' := fun e w' => match e, w' with
      | .returned v, w'' => K (a.put o.dst v) w''
      | .panicked chain, w'' => Q (.panic chain) a w''
      | .outgrown, _ => LetsOut Q) fun e w' he => by
        obtain ⟨u, σ', A', rfl, s1, s2, s3⟩ := he
        exact hK _ _ _ _ s1 s2 s3)
    exact this
  · rename_i b xs hy
    obtain ⟨hA, cargs, hl, hr⟩ := aop_round (w := w) (E := E) ra hy
    have hcs : CallS E M (.yl b) xs h v h' := hc _ _ _ _ _ hx
    obtain ⟨f, tmps, asg, body, h1, h2⟩ := hcs σ A w cargs hl rh hA
    rw [aop_defer hy, hr, h1]
    refine ⟨fun e => by simp [FR] at e, ?_⟩
    have := h2.mono (R' := fun e w' => match e, w' with
      | .returned v, w'' => K (a.put o.dst v) w''
      | .panicked chain, w'' => Q (.panic chain) a w''
      | .outgrown, _ => LetsOut Q) fun e w' he => by
        obtain ⟨u, σ', A', rfl, s1, s2, s3⟩ := he
        exact hK _ _ _ _ s1 s2 s3
    exact this
  · cases hx

theorem opsA_ok (ok : E.Ok) {call : CallF} (hc : CallOk E M call) {r : Option Nat} {all : Array Oper} : ∀ (l : List Oper) (σ : Nat → Loc) (A : Nat → Prop) (w : World) (h : H) (fr : Fr) (a : Act),
    l.all (fun o => dstOk n o.dst) = true → RelA σ A M fr a → RelH σ A M w h → a.tmps.size = n → DG B σ h w a → OutOk B σ A M w h n Q (opsA E call all.toList l fr h) → wpListIn (FR r) 0 E.P all Q l a w
  | [], σ, A, w, h, fr, a, _, ra, rh, hn, d, g => g a w σ A (Step.refl _ _ _ _) ra rh hn d
  | o :: l, σ, A, w, h, fr, a, hd, ra, rh, hn, d, g => by
    simp only [List.all_cons, Bool.and_eq_true] at hd
    have hdst : ∀ t, o.dst = some t → t < a.tmps.size := by rw [hn]; exact dstOk_lt hd.1
    have g : OutOk B σ A M w h n Q (opsS E call all.toList o (opsA E call all.toList l) fr h) := g
    unfold opsS at g
    unfold wpListIn
    cases hw : wantedG all.toList fr o.guard with
    | none => rw [hw] at g; exact g.elim
    | some b =>
      rw [hw] at g
      rw [wantedG_ok ra hw]
      cases b with
      | false => exact ⟨fun _ _ => trivial, opsA_ok ok hc l σ A w h _ _ hd.2 (ra.put .undef hdst) rh (by rw [size_put]; exact hn) (d.same (defers_put _ _ _)) g⟩
      | true =>
        simp only [if_true]
        cases hx : opA E call o.op fr h with
        | none => rw [hx] at g; exact g.elim
        | some p =>
          obtain ⟨v, h'⟩ := p
          rw [hx] at g
          refine opA_ok ok hc ra rh hx fun u w' σ' A' s1 s2 s3 => ?_
          exact opsA_ok ok hc l σ' A' w' h' _ _ hd.2 ((ra.move s1.agree rfl).put s2 hdst) s3 (by rw [size_put]; exact hn) (d.step s1 (defers_put _ _ _)) (OutOk.step s1 g)

theorem stepR_scope {P : Program} {b : Frame} {a : Act} {k : List Item} {cs : List Frame} {w : World} {c : Code} : step P (lone (b.atR a (.code (.scope c) :: k)) cs w) = .next (lone (b.atR a (.code c :: .inScope c :: k)) cs w) :=
  step_lone_go (by simp [stepG, stepG.exec, Frame.atR])
theorem stepR_inScope {P : Program} {b : Frame} {a : Act} {k : List Item} {cs : List Frame} {w : World} {c : Code} : step P (lone (b.atR a (.inScope c :: k)) cs w) = .next (lone (b.atR a k) cs w) :=
  step_lone_go (by simp [stepG, stepG.exec, Frame.atR])
/-- A scope that nothing jumps in. -/
theorem wpIn_scope {F : Fence} {n : Nat} {P : Program} {a : Act} {c : Code} (h : c.wpIn F n P (Exit.noGoto Q) a w) : (Code.scope c).wpIn F n P Q a w := by
  intro b k cs hro hb hr
  have h0 : (lone (b.atR a (.code (.scope c) :: k)) cs w).fenced P F := fenced_calm hb hr rfl
  obtain ⟨e, a₁, w₁, hq, harr⟩ := h b (.inScope c :: k) cs hro hb hr
  cases e with
  | normal => exact ⟨.normal, a₁, w₁, hq, .head h0 stepR_scope (StepsIn.trans harr (.one (fenced_calm hb hr rfl) stepR_inScope))⟩
  | exit id =>
    have hx : exitTo id (.inScope c :: k) = exitTo id k := by simp [exitTo]
    exact ⟨.exit id, a₁, w₁, hq, fun k' hk => .head h0 stepR_scope (harr.1 k' (by rw [hx]; exact hk)),
      fun hr' hk => let ⟨k₁, h1, h2⟩ := harr.2 hr' (by rw [hx]; exact hk); ⟨k₁, h1, .head h0 stepR_scope h2⟩⟩
  | goto l => exact (show False from hq).elim
  | ret => exact ⟨_, a₁, w₁, hq, .of_steps (.one h0 stepR_scope) harr⟩
  | panic ch => exact ⟨_, a₁, w₁, hq, .of_steps (.one h0 stepR_scope) harr⟩
  | outgrown => exact ⟨_, a₁, w₁, hq, .of_steps (.one h0 stepR_scope) harr⟩

/-- What is asked of the way in which drawn regions are gone through. -/
def DrawOk (E : Env) (M : Mem) (n : Nat) (rd : DrawF) : Prop := ∀ (id : Nat) (ops : Array Oper), ops.toList.all (fun o => dstOk n o.dst) = true → ∀ rb, CodeS E M n rb (.region id ops true) (rd ops.toList)

/-! #### A block that is nobody's -/
theorem alloc_old (w : World) (o : Obj) (k : Nat) (hk : k < w.heap.size) : (w.alloc o).heap[k]? = w.heap[k]? := by
  show (w.heap.push o)[k]? = _
  rw [Array.getElem?_push, if_neg (by omega)]
theorem alloc_nobody (rh : RelH σ A M w h) (o : Obj) : Step σ A w h σ A (w.alloc o) h ∧ RelH σ A M (w.alloc o) h := by
  have hold : ∀ k, k < w.heap.size → (w.alloc o).heap[k]? = w.heap[k]? := fun k hk => alloc_old w o k hk
  refine ⟨⟨fun _ a => ⟨a, rfl⟩, fun _ a => .inl a, rfl, rfl, rfl, by simp, fun k hk _ => hold k hk, fun _ o => .inl o, Nat.le_refl _, rfl, fun _ _ => rfl, rfl, rfl, fun _ e => .inl e⟩,
    ⟨rh.bound, rh.dom, fun b x e => RelB.move (fun _ a => ⟨a, rfl⟩) (rh.dom b x e) (fun l => hold _ ((rh.blk b x e).lt l)) (rh.blk b x e), rh.inj, fun a v e => ⟨stay_of rh e (fun k hk _ => hold k hk), (rh.stay a v e).2⟩, rh.wb, rh.pos⟩⟩
theorem put_nobody (rh : RelH σ A M w h) {k : Nat} {d : Option (List Deferred)} (hk : w.heap[k]? = some (.deferred d)) (hno : ¬ Own σ h k) (o : Obj) : RelH σ A M (w.putObj k o) h := by
  have hold : ∀ j, j ≠ k → (w.putObj k o).heap[j]? = w.heap[j]? := fun j hj => World.putObj_heap_other hj
  refine ⟨rh.bound, rh.dom, fun b x e => RelB.move (fun _ a => ⟨a, rfl⟩) (rh.dom b x e) (fun l => hold _ (fun e' => hno ⟨b, x, e, l, e'⟩)) (rh.blk b x e), rh.inj, fun a v e => ⟨?_, (rh.stay a v e).2⟩, rh.wb, rh.pos⟩
  have h1 := (rh.stay a v e).1
  refine (World.cell?_of_block (w := w) (hold a.block fun e' => ?_)).trans h1
  subst e'
  simp [World.cell?, hk] at h1

/-! #### Code -/
theorem seq_out {k : Fr → H → Out} {o : Out} {Q' : Exit → Act → World → Prop} (g : OutOk B σ A M w h n Q (Out.seq k o))
    (hno : ∀ fr h', OutOk B σ A M w h n Q (k fr h') → Goes B σ A M w h n (Q' .normal) fr h') (hr : ∀ a w, Q .ret a w → Q' .ret a w) (he : ∀ i a w, Q (.exit i) a w → Q' (.exit i) a w) : OutOk B σ A M w h n Q' o := by
  cases o with
  | no => exact g
  | nor fr h' => exact hno fr h' g
  | ret fr h' => exact fun a' w' σ' A' s ra rh hn d => hr _ _ (g a' w' σ' A' s ra rh hn d)
  | ex i fr h' => exact fun a' w' σ' A' s ra rh hn d => he _ _ _ (g a' w' σ' A' s ra rh hn d)

theorem rounds_ok {c : Code} {x : Fr → H → Out} {rb : Option Nat} (hb : CodeS E M n rb c x) {r : Option Nat} : ∀ (N : Nat) (σ : Nat → Loc) (A : Nat → Prop) (w : World) (h : H) (fr : Fr) (a : Act),
    B ≤ w.heap.size → RC σ A r rb → RelA σ A M fr a → RelH σ A M w h → a.tmps.size = n → DG B σ h w a → OutOk B σ A M w h n Q (iter x N fr h) → Code.roundsIn (FR r) 0 E.P c Q N a w
  | 0, σ, A, w, h, fr, a, hB, rc, ra, rh, hn, d, g => (show False from g).elim
  | N + 1, σ, A, w, h, fr, a, hB, rc, ra, rh, hn, d, g => by
    rw [roundsIn_succ]
    have g : OutOk B σ A M w h n Q (Out.seq (iter x N) (x fr h)) := g
    refine hb B r σ A w h fr a _ hB rc ra rh hn d (seq_out g (fun fr' h' g' a' w' σ' A' s ra rh hn d => ?_) (fun _ _ q => q) (fun _ _ _ q => q))
    exact rounds_ok hb N σ' A' w' h' fr' a' (Nat.le_trans hB s.size) (rc.step s.agree) ra rh hn d (OutOk.step s g')

theorem stOf_busy {k : Nat} (h : k ≠ 1) : stOf k ≠ .busy := by
  unfold stOf
  split
  · simp
  · omega
  · simp
  · simp

/-- Behind the function that was ranged over. -/
theorem after_ok {r : Option Nat} {w0 : World} {h0 : H} {σ0 : Nat → Loc} {A0 : Nat → Prop} {b : Nat} {fr : Fr} {a : Act} {h2 : H} (rh : RelH σ A M w h2) (s : Step σ0 A0 w0 h0 σ A w h2) (ra : RelA σ A M fr a) (hn : a.tmps.size = n) (d : DG B σ h2 w a)
    (g : OutOk B σ0 A0 M w0 h0 n Q (afterA b fr h2)) : ∃ jump w4, (Instr.endLoop (σ b).blk).run E.P w = .ok jump w4 ∧ (match jump with | none => Q .normal a w4 | some c => c.wpIn (FR r) 0 E.P Q a w4) := by
  unfold afterA at g
  split at g
  case h_2 => exact g.elim
  rename_i k hk
  rw [cond_eq_if, natBeq] at g
  split at g
  · exact g.elim
  rename_i hst
  have hst : k.st ≠ 1 := fun e => hst (decide_eq_true e)
  split at g
  case h_2 => exact g.elim
  rename_i h3 hw
  obtain ⟨L, hL, rk⟩ := rh.blk b _ hk
  have hb : L.state ≠ .busy := by rw [rk.st]; exact stOf_busy hst
  have hrun := run_endLoop (P := E.P) hL hb
  obtain ⟨w4, hw4⟩ : ∃ w4, w4 = w.putObj (σ b).blk (.loop { L with state := .exhausted }) := ⟨_, rfl⟩
  rw [← hw4] at hrun
  refine ⟨L.pending, w4, hrun, ?_⟩
  obtain ⟨s2, rh3⟩ := write_ok rh hk rfl hw (w' := w4) (by rw [hw4]; rfl) (by rw [hw4]; rfl) (by rw [hw4]; rfl) (by rw [hw4]; simp) (fun q hq => by rw [hw4]; exact World.putObj_heap_other hq) (y := .dead) trivial
  have d' := d.step s2 (a' := a) rfl
  rw [rk.pend]
  unfold jumpA at g
  split at g
  · rename_i hp; rw [hp]; exact g a _ σ A (s.trans s2) ra rh3 hn d'
  · rename_i hp; rw [hp]; exact wpIn_ret (g a _ σ A (s.trans s2) ra rh3 hn d')
  · rename_i i hp; rw [hp]; exact wpIn_exit (g a _ σ A (s.trans s2) ra rh3 hn d')
  · exact g.elim

theorem range_ok (ok : E.Ok) {call : CallF} (hc : CallOk E M call) {rb : Option Nat} (f : Operand) (ps : Array Tmp) (asg body : Code) : CodeS E M n rb (.rangeFunc f ps asg body) (fun fr h => rangeA E call n rb f ps asg body fr h) := by
  intro B r σ A w h fr a Q hB rc ra rh hn d g
  have g : OutOk B σ A M w h n Q (rangeA E call n rb f ps asg body fr h) := g
  unfold rangeA at g
  split at g
  case h_2 => exact g.elim
  rename_i gf fs cs hf
  split at g
  case h_2 => exact g.elim
  rename_i F hF
  rw [cond_eq_if] at g
  split at g
  case isFalse => exact g.elim
  rename_i hrb
  split at g
  case h_2 => exact g.elim
  rename_i z h2 hcall
  have hv := ra.ev f
  rw [hf] at hv
  generalize hfv : a.eval f = fv at hv
  cases hv with | fn _ _ _ first cap g1 g2 =>
  obtain ⟨k1, k2, k3⟩ := ok.fn _ _ hF
  have hcs : CallS E M (.fn gf) (ap fs (.yl h.next :: cs)) (h.push (.loop ⟨0, none, fr, ps.toList, asg, body, n⟩)) z h2 := hc _ _ _ _ _ hcall
  have hres : ∀ (l : Nat) (w1 : World), (resolve a.eval (rangeCall f l) 0).run E.P w1 = .ok { target := .fn (.func gf) cap, args := first ++ #[Value.func (.yield l) #[] #[]] } w1 := by
    intro l w1
    simp only [resolve, hfv, Deferred.ofValue, Sem.run_bind, Sem.run_pure, Result.andThen_ok]
    simp [Act.eval]
  have hinv : ∀ (l : Nat) (w1 : World), (invoke (.fn (.func gf) cap) (first ++ #[Value.func (.yield l) #[] #[]])).run E.P w1 = .ok (.enter gf ((first ++ #[Value.func (.yield l) #[] #[]]) ++ cap)) w1 := by
    intro l w1
    simp only [invoke, callFunc, run_program, k1, Sem.run_bind, Result.andThen_ok]
    have : (F.name == "runtime.NumGoroutine") = false := by simpa using k3
    simp only [this]
    have hb : F.body.isNone = false := by cases hF : F.body <;> simp_all
    simp [hb]
  -- the record, laid in a world that says the same
  have lay : ∀ (w1 : World) (L : Loop) (mark : List Deferred), Step σ A w h σ A w1 h → RelH σ A M w1 h → L.state = .ready → L.pending = none → L.params = ps → L.assign = asg → L.body = body → L.tmps = a.tmps →
      (∀ fn, (Instr.enterLoop fn a.tmps ps asg body r).run E.P w = .ok (w1.heap.size, mark) (w1.alloc (.loop { L with fn }))) → DG B σ h w1 { a with defers := mark ++ a.defers } → (Code.rangeFunc f ps asg body).wpIn (FR r) 0 E.P Q a w := by
    intro w1 L mark s1 rh1 l1 l2 l3 l4 l5 l6 hrun hdg
    refine wpIn_rangeFunc fun fn _ => ?_
    have hrun := hrun fn
    refine ⟨_, mark, _, _, _, gf, _, _, hrun, hres _ _, fun _ _ => trivial, hinv _ _, fun e => by simp [FR] at e, ?_⟩
    have hK : RelB (upd σ h.next ⟨w1.heap.size, 0, 0⟩) (fun b => A b ∨ b = h.next) M (w1.alloc (.loop { L with fn })) h.next (.loop ⟨0, none, fr, ps.toList, asg, body, n⟩) := by
      refine ⟨{ L with fn }, by rw [upd_same]; exact World.alloc_heap_new w1 _, ⟨l1, l2, by rw [l3], l4, l5, by show L.tmps.size = n; rw [l6]; exact hn, fun t v hv => ?_, fun t ht => ?_⟩⟩
      · have hv : L.tmps[t]? = some v := hv
        rw [l6] at hv
        have := (ra.tmps t v hv).move (upd_agree rh1 ⟨w1.heap.size, 0, 0⟩)
        rw [slotOf_eq] at this
        exact this
      · have ht : L.tmps.size ≤ t := ht
        rw [l6] at ht
        exact ra.out t ht
    obtain ⟨p1, p2⟩ := push_ok rh1 (.loop { L with fn }) (.loop ⟨0, none, fr, ps.toList, asg, body, n⟩) ⟨w1.heap.size, 0, 0⟩ (fun _ => rfl) hK
    have hargs : RelL (upd σ h.next ⟨w1.heap.size, 0, 0⟩) (fun b => A b ∨ b = h.next) M (ap fs (.yl h.next :: cs)) ((first ++ #[Value.func (.yield w1.heap.size) #[] #[]]) ++ cap).toList := by
      rw [ap_eq, Array.toList_append, Array.toList_append, List.append_assoc]
      refine (p1.relL (s1.relL g1)).append (.cons _ _ _ _ (.yl _ (.inr rfl) _ (by rw [upd_same])) (p1.relL (s1.relL g2)))
    refine (callsIn_wide (n := 0)).2 ((hcs _ _ _ _ hargs p2).mono fun e w3 he => ?_)
    obtain ⟨v, σ3, A3, rfl, s3, _, rh3⟩ := he
    have hσ : (σ3 h.next).blk = w1.heap.size := by rw [(s3.agree h.next (.inr rfl)).2, upd_same]
    have stot := (s1.trans p1).trans s3
    have := after_ok (E := E) (r := r) (a := { a with defers := mark ++ a.defers }) rh3 stot (RelA.move (a := a) stot.agree rfl ra) hn (hdg.step (p1.trans s3) rfl) g
    rw [hσ] at this
    exact this
  cases rb with
  | none =>
    have rc : r = none := rc
    subst rc
    obtain ⟨s1, rh1⟩ := alloc_nobody rh (.deferred (some []))
    refine lay (w.alloc (.deferred (some []))) { state := .ready, pending := none, fn := 0, tmps := a.tmps, params := ps, assign := asg, body := body, defers := w.heap.size } [markOf w.heap.size] s1 rh1 rfl rfl rfl rfl rfl rfl ?_ ?_
    · intro fn
      rw [run_enterLoop_outer]
      simp [markOf]
    · obtain ⟨ks, h1, h2, h3⟩ := d
      refine ⟨w.heap.size :: ks, by rw [h1]; rfl, List.nodup_cons.2 ⟨fun hm => ?_, h2⟩, fun k hk => ?_⟩
      · have := (Array.getElem?_eq_some_iff.1 (h3 _ hm).2.1).1
        omega
      · rcases List.mem_cons.1 hk with rfl | hk
        · exact ⟨hB, World.alloc_heap_new w _, fun o => by have := o.lt rh; omega⟩
        · obtain ⟨q1, q2, q3⟩ := h3 k hk
          exact ⟨q1, (alloc_old w _ k (Array.getElem?_eq_some_iff.1 q2).1).trans q2, q3⟩
  | some b =>
    obtain ⟨hA, hr⟩ : A b ∧ r = some (σ b).blk := rc
    subst hr
    unfold rbOk at hrb
    simp only at hrb
    split at hrb
    case h_2 => cases hrb
    rename_i k hk
    obtain ⟨L, hL, rk⟩ := rh.blk b _ hk
    refine lay w { state := .ready, pending := none, fn := 0, tmps := a.tmps, params := ps, assign := asg, body := body, defers := L.defers } [] (Step.refl _ _ _ _) rh rfl rfl rfl rfl rfl rfl ?_ d
    intro fn
    rw [run_enterLoop_inner hL]

theorem exec_ok (ok : E.Ok) {call : CallF} (hc : CallOk E M call) {rd : DrawF} (hr : DrawOk E M n rd) (N : Nat) (rb : Option Nat) (c : Code) (hk : codeOk n c = true) : CodeS E M n rb c (execC E call rd N n rb c) := by
  induction c with
  | skip => exact fun B r σ A w h fr a Q hB rc ra rh hn d g => wpIn_skip (g a w σ A (Step.refl _ _ _ _) ra rh hn d)
  | region id ops draw =>
    have hk2 : ops.toList.all (fun o => dstOk n o.dst) = true := by rw [← al_eq]; exact hk
    clear hk
    cases draw with
    | false => exact fun B r σ A w h fr a Q hB rc ra rh hn d g => wpIn_region_list (opsA_ok ok hc ops.toList σ A w h fr a hk2 ra rh hn d g)
    | true => exact hr id ops hk2 rb
  | seq x y ihx ihy =>
    have hk : cond (codeOk n x) (codeOk n y) false = true := hk
    rw [cond_eq_if] at hk
    have hkx : codeOk n x = true := by revert hk; cases codeOk n x <;> simp
    rw [hkx] at hk
    intro B r σ A w h fr a Q hB rc ra rh hn d g
    have g : OutOk B σ A M w h n Q (Out.seq (execC E call rd N n rb y) (execC E call rd N n rb x fr h)) := g
    refine wpIn_seq (ihx hkx B r σ A w h fr a _ hB rc ra rh hn d (seq_out g (fun fr' h' g' a' w' σ' A' s ra rh hn d => ?_) (fun _ _ q => q) (fun _ _ _ q => q)))
    exact ihy (by simpa using hk) B r σ' A' w' h' fr' a' Q (Nat.le_trans hB s.size) (rc.step s.agree) ra rh hn d (OutOk.step s g')
  | cond c x y ihx ihy =>
    have hk : cond (codeOk n x) (codeOk n y) false = true := hk
    rw [cond_eq_if] at hk
    have hkx : codeOk n x = true := by revert hk; cases codeOk n x <;> simp
    rw [hkx] at hk
    intro B r σ A w h fr a Q hB rc ra rh hn d g
    have g : OutOk B σ A M w h n Q (cBranch (ev fr c) (execC E call rd N n rb x fr h) (execC E call rd N n rb y fr h)) := g
    unfold cBranch at g
    split at g
    · rename_i t ht
      have hv := ra.ev c
      rw [ht] at hv
      have hv : a.eval c = .bool t := by generalize a.eval c = u at hv; cases hv; rfl
      refine wpIn_cond hv ?_
      cases t with
      | true => exact ihx hkx B r σ A w h fr a Q hB rc ra rh hn d g
      | false => exact ihy (by simpa using hk) B r σ A w h fr a Q hB rc ra rh hn d g
    · exact g.elim
  | block id x ih =>
    intro B r σ A w h fr a Q hB rc ra rh hn d g
    have g : OutOk B σ A M w h n Q (Out.blk id (execC E call rd N n rb x fr h)) := g
    refine wpIn_block (ih hk B r σ A w h fr a _ hB rc ra rh hn d ?_)
    cases ho : execC E call rd N n rb x fr h with
    | no => rw [ho] at g; exact g
    | nor fr' h' => rw [ho] at g; exact g
    | ret fr' h' => rw [ho] at g; exact g
    | ex i fr' h' =>
      rw [ho] at g
      have g : OutOk B σ A M w h n Q (Bool.rec (motive := fun _ => Out) (.ex i fr' h') (.nor fr' h') (Nat.beq i id)) := g
      intro a' w' σ' A' s ra rh hn d
      simp only [Exit.inBlock]
      rw [natBeq] at g
      by_cases hi : i = id
      · rw [if_pos hi]
        rw [decide_eq_true hi] at g
        exact g a' w' σ' A' s ra rh hn d
      · rw [if_neg hi]
        rw [decide_eq_false hi] at g
        exact g a' w' σ' A' s ra rh hn d
  | loop x ih => exact fun B r σ A w h fr a Q hB rc ra rh hn d g => wpIn_loop_rounds N (rounds_ok (ih hk) N σ A w h fr a hB rc ra rh hn d g)
  | rangeFunc f ps x y => exact range_ok ok hc f ps x y
  | exit i => exact fun B r σ A w h fr a Q hB rc ra rh hn d g => wpIn_exit (g a w σ A (Step.refl _ _ _ _) ra rh hn d)
  | scope x ih =>
    intro B r σ A w h fr a Q hB rc ra rh hn d g
    refine wpIn_scope (ih hk B r σ A w h fr a _ hB rc ra rh hn d ?_)
    have g : OutOk B σ A M w h n Q (execC E call rd N n rb x fr h) := g
    cases ho : execC E call rd N n rb x fr h with
    | no => rw [ho] at g; exact g
    | nor fr' h' => rw [ho] at g; exact g
    | ret fr' h' => rw [ho] at g; exact g
    | ex i fr' h' => rw [ho] at g; exact g
  | label l => exact fun B r σ A w h fr a Q hB rc ra rh hn d g => wpIn_label (g a w σ A (Step.refl _ _ _ _) ra rh hn d)
  | goto l => exact absurd hk (by intro e; cases e)
  | ret => exact fun B r σ A w h fr a Q hB rc ra rh hn d g => wpIn_ret (g a w σ A (Step.refl _ _ _ _) ra rh hn d)
  | refuse s => exact absurd hk (by intro e; cases e)

/-! #### Results, bodies -/
def res1 (tmps : Array Value) : ResultVar → Sem Value
  | .tmp t => pure (tmps.getD t undef)
  | .cell a t => do loadVar t (← asAddr (tmps.getD a undef))

theorem resA_ok (ok : E.Ok) (rh : RelH σ A M w h) {fr : Fr} {a : Act} (ra : RelA σ A M fr a) : ∀ (rs : List ResultVar) (xs : List AV), resA E h fr rs = some xs →
    ∃ vs, (rs.mapM (res1 a.tmps)).run E.P w = .ok vs w ∧ RelL σ A M xs vs
  | [], xs, hx => by cases hx; exact ⟨[], rfl, .nil⟩
  | .tmp t :: rs, xs, hx => by
    have hx : (match resA E h fr rs with | some xs => some (slotOf (fr.get t) :: xs) | none => none) = some xs := hx
    split at hx
    · rename_i ys hy
      cases hx
      obtain ⟨vs, h1, h2⟩ := resA_ok ok rh ra rs ys hy
      refine ⟨a.tmps.getD t undef :: vs, by simp [List.mapM_cons, res1, h1], .cons _ _ _ _ ?_ h2⟩
      exact ra.ev (.tmp t)
    · cases hx
  | .cell c t :: rs, xs, hx => by
    have hx : (match aLoad E h t (slotOf (fr.get c)), resA E h fr rs with | some x, some xs => some (x :: xs) | _, _ => none) = some xs := hx
    split at hx
    · rename_i x ys hl hy
      cases hx
      obtain ⟨vs, h1, h2⟩ := resA_ok ok rh ra rs ys hy
      unfold aLoad at hl
      split at hl
      · rename_i i cs hi hcs
        have hv := ra.ev (.tmp c)
        obtain ⟨ad, us, he, g2, g3⟩ := aCells_ok rh hcs hv
        obtain ⟨u, hu, hr⟩ := loadVar_ok ok hi hl g2 g3
        have he : a.tmps.getD c undef = .pointer (some ad) := he
        refine ⟨u :: vs, ?_, .cons _ _ _ _ hr h2⟩
        simp only [List.mapM_cons, res1, he, asAddr, Sem.run_bind, Sem.run_pure, Result.andThen_ok, hu, h1]
      · cases hl
    · cases hx

theorem results_ok (ok : E.Ok) (rh : RelH σ A M w h) {fr : Fr} {a : Act} (ra : RelA σ A M fr a) {F : Func} {xs : List AV} (hx : resA E h fr F.results.toList = some xs) :
    ∃ v, (results F a.tmps).run E.P w = .ok v w ∧ RelV σ A M (oneOf xs) v := by
  obtain ⟨vs, h1, h2⟩ := resA_ok ok rh ra _ _ hx
  have e : results F a.tmps = (do let vs ← F.results.mapM (res1 a.tmps); pure (if h : vs.size = 1 then vs[0] else .tuple vs)) := by
    unfold results
    congr 1
  rw [e, Array.mapM_eq_mapM_toList]
  simp only [Sem.run_bind, Sem.run_map, h1]
  simp only [Result.andThen_ok, Sem.run_pure]
  refine ⟨_, rfl, ?_⟩
  cases h2 with
  | nil => simp only [oneOf]; exact .tup _ _ .nil
  | cons x v xs vs r1 r2 =>
    cases r2 with
    | nil => simp only [oneOf]; exact r1
    | cons y u ys us r3 r4 => simp only [oneOf]; exact .tup _ _ (.cons _ _ _ _ r1 (.cons _ _ _ _ r3 r4))

/-! #### One round -/
theorem putPs_ok : ∀ (ps : List Nat) (xs : List AV) (vs : List Value) (fr : Fr) (a : Act), RelL σ A M xs vs → ps.length = xs.length → (∀ p ∈ ps, p < a.tmps.size) → RelA σ A M fr a →
    RelA σ A M (putPs ps xs fr) { a with tmps := (ps.zip vs).foldl (fun t (p, v) => t.setIfInBounds p v) a.tmps } ∧ ((ps.zip vs).foldl (fun t (p, v) => t.setIfInBounds p v) a.tmps).size = a.tmps.size
  | [], [], vs, fr, a, hl, _, _, ra => by cases hl; exact ⟨ra, rfl⟩
  | [], x :: xs, vs, fr, a, _, h, _, _ => by simp at h
  | p :: ps, [], vs, fr, a, _, h, _, _ => by simp at h
  | p :: ps, x :: xs, vs, fr, a, hl, h, hp, ra => by
    cases hl with | cons _ v _ vs h1 h2 =>
    have ra' := ra.put h1 (d := some p) (fun t e => by cases e; exact hp p (by simp))
    have := putPs_ok ps xs vs (fr.put p (some x)) (a.put (some p) v) h2 (by simpa using h) (fun q hq => by rw [size_put]; exact hp q (by simp [hq])) ra'
    obtain ⟨g1, g2⟩ := this
    rw [size_put] at g2
    exact ⟨g1, g2⟩

theorem end_ok (rh : RelH σ A M w h) {b : Nat} {j : Option Code} {z : AV} {h' : H} (hx : endRA b j h = some (z, h')) (P : Program) :
    ∃ v w', (Instr.endRound (σ b).blk j).run P w = .ok v w' ∧ Step σ A w h σ A w' h' ∧ RelV σ A M z v ∧ RelH σ A M w' h' := by
  unfold endRA at hx
  split at hx
  case h_2 => cases hx
  rename_i k hk
  split at hx
  case h_2 => cases hx
  rename_i h1 hw
  cases hx
  obtain ⟨L, hL, rk⟩ := rh.blk b _ hk
  have hrun := run_endRound (P := P) j hL
  have hlt : (σ b).blk < w.heap.size := (Array.getElem?_eq_some_iff.1 hL).1
  refine ⟨_, _, hrun, ?_⟩
  obtain ⟨s2, rh2⟩ := write_ok rh hk rfl hw (w' := w.putObj (σ b).blk (.loop { L with state := if j.isNone then .ready else .done, pending := j })) rfl rfl rfl (by simp) (fun q hq => World.putObj_heap_other hq)
    (y := .loop ⟨stJ j, j, k.fr, k.ps, k.asg, k.body, k.n⟩) ⟨_, World.putObj_heap_same hlt, ⟨by cases j <;> rfl, rfl, rk.ps, rk.asg, rk.body, rk.n, rk.tmps, rk.out⟩⟩
  refine ⟨s2, ?_, rh2⟩
  cases j <;> exact .b _

theorem round_ok (ok : E.Ok) {call : CallF} (hc : CallOk E M call) {rd : DrawF} (hr : ∀ n, DrawOk E M n rd) (N : Nat) {b : Nat} {xs : List AV} {h : H} {z : AV} {h' : H} (hx : roundA E call rd N b xs h = some (z, h')) : CallS E M (.yl b) xs h z h' := by
  intro σ A w cargs hl rh hA
  unfold roundA at hx
  split at hx
  case h_2 => cases hx
  rename_i k hk
  rw [cond_eq_if] at hx
  split at hx
  case isFalse => cases hx
  rename_i hcond
  have cand : ∀ x y : Bool, cond x y false = true → x = true ∧ y = true := fun x y e => by cases x <;> simp at e ⊢; exact e
  obtain ⟨c1, hcond⟩ := cand _ _ hcond
  obtain ⟨c2, hcond⟩ := cand _ _ hcond
  obtain ⟨c3, hcond⟩ := cand _ _ hcond
  rw [natBeq, ln_eq, ln_eq] at c3
  have c3 := of_decide_eq_true c3
  rw [al_eq, List.all_eq_true] at hcond
  obtain ⟨L, hL, rk⟩ := rh.blk b _ hk
  have hsz : cargs.size = L.params.size := by
    have e1 := hl.length
    have e2 : L.params.toList.length = k.ps.length := by rw [rk.ps]
    simp at e1 e2
    omega
  refine ⟨L.fn, _, L.assign, L.body, run_yield hL hsz, roundIn_of_wpIn (F := Fence.wide) trivial ?_⟩
  have ra0 : RelA σ A M k.fr { tmps := L.tmps, defers := [] } := ⟨fun t v hv => by rw [slotOf_eq]; exact rk.tmps t v hv, rk.out⟩
  obtain ⟨ra1, sz1⟩ := putPs_ok k.ps xs cargs.toList k.fr { tmps := L.tmps, defers := [] } hl (by rw [c3]) (fun p hp => by
    have := Nat.le_of_ble_eq_true (hcond p hp)
    show p < L.tmps.size
    rw [rk.n]; exact this) ra0
  have etm : (L.params.zip cargs).foldl (fun t (p, v) => t.setIfInBounds p v) L.tmps = (k.ps.zip cargs.toList).foldl (fun t (p, v) => t.setIfInBounds p v) L.tmps := by
    rw [← Array.foldl_toList, Array.toList_zip, rk.ps]
  rw [rk.asg, rk.body]
  rw [etm]
  refine exec_ok ok hc (hr k.n) N (some b) k.asg c1 0 (some (σ b).blk) σ A w h _ _ _ (Nat.zero_le _) ⟨hA, rfl⟩ ra1 rh (by rw [sz1]; exact rk.n) (DG.nil _ _ _ _ _) ?_
  cases ho : execC E call rd N k.n (some b) k.asg (putPs k.ps xs k.fr) h with
  | no => rw [ho] at hx; cases hx
  | ret _ _ => rw [ho] at hx; cases hx
  | ex _ _ _ => rw [ho] at hx; cases hx
  | nor fr1 h1 =>
    rw [ho] at hx
    have hx : roundB E call rd N b k fr1 h1 = some (z, h') := hx
    intro a1 w1 σ1 A1 s1 ra1 rh1 hn1 d1
    unfold roundB at hx
    split at hx
    case h_2 => cases hx
    rename_i k1 hk1
    rw [cond_eq_if, natBeq] at hx
    split at hx
    case isFalse => cases hx
    rename_i hst
    have hst := of_decide_eq_true hst
    split at hx
    case h_2 => cases hx
    rename_i h2 hw
    obtain ⟨L1, hL1, rk1⟩ := rh1.blk b _ hk1
    have hσ := s1.agree b hA
    have hlt : (σ1 b).blk < w1.heap.size := (Array.getElem?_eq_some_iff.1 hL1).1
    have hready : L1.state = .ready := by rw [rk1.st, hst]; rfl
    have hrun := run_beginRound (P := E.P) hL1 hready
    obtain ⟨s2, rh2⟩ := write_ok rh1 hk1 rfl hw (w' := w1.putObj (σ1 b).blk (.loop { L1 with state := .busy })) rfl rfl rfl (by simp) (fun q hq => World.putObj_heap_other hq)
      (y := .loop ⟨1, k1.pend, k1.fr, k1.ps, k1.asg, k1.body, k1.n⟩) ⟨_, World.putObj_heap_same hlt, ⟨rfl, rk1.pend, rk1.ps, rk1.asg, rk1.body, rk1.n, rk1.tmps, rk1.out⟩⟩
    have hblk : (σ1 b).blk = (σ b).blk := by rw [hσ.2]
    rw [hblk] at hrun s2 rh2
    refine ⟨_, hrun, ?_⟩
    refine exec_ok ok hc (hr k.n) N (some b) k.body c2 0 (some (σ b).blk) σ1 A1 _ h2 fr1 a1 _ (Nat.zero_le _) ⟨hσ.1, by rw [hblk]⟩ ra1 rh2 hn1 (d1.step s2 rfl) ?_
    have s12 := s1.trans s2
    have fin : ∀ (j : Option Code) (fr3 : Fr) (h3 : H) (K : Act → World → Prop), endRA b j h3 = some (z, h') →
        (∀ (a3 : Act) (w3 : World), (∃ v w', (Instr.endRound (σ b).blk j).run E.P w3 = .ok v w' ∧ Ans σ A M w h z h' (.returned v) w') → K a3 w3) → Goes 0 σ1 A1 M (w1.putObj (σ b).blk (.loop { L1 with state := .busy })) h2 k.n K fr3 h3 := by
      intro j fr3 h3 K he hK a3 w3 σ3 A3 s3 ra3 rh3 hn3 d3
      obtain ⟨v, w', g1, g2, g3, g4⟩ := end_ok rh3 he E.P
      have hb3 : (σ3 b).blk = (σ b).blk := by rw [(s3.agree b hσ.1).2, hblk]
      rw [hb3] at g1
      exact hK a3 w3 ⟨v, w', g1, v, σ3, A3, rfl, (s12.trans s3).trans g2, g3, g4⟩
    unfold leaveA at hx
    cases ho2 : execC E call rd N k.n (some b) k.body fr1 h2 with
    | no => rw [ho2] at hx; cases hx
    | nor fr3 h3 => rw [ho2] at hx; exact fin none fr3 h3 _ hx (fun a3 w3 q => q)
    | ret fr3 h3 => rw [ho2] at hx; exact fin (some .ret) fr3 h3 _ hx (fun a3 w3 q => q)
    | ex i fr3 h3 => rw [ho2] at hx; exact fin (some (.exit i)) fr3 h3 _ hx (fun a3 w3 q => q)

/-! #### A function's body -/
theorem get_frOf : ∀ (xs : List AV) (i : Nat) (fr : Fr) (t : Nat), (frOf xs i fr).get t = if i ≤ t ∧ t < i + xs.length then xs[t - i]? else fr.get t
  | [], i, fr, t => by
    rw [if_neg (by simp only [List.length_nil]; omega)]; rfl
  | x :: xs, i, fr, t => by
    have ih := get_frOf xs (i + 1) (fr.put i (some x)) t
    show (frOf xs (i + 1) (fr.put i (some x))).get t = _
    rw [ih, T.get_put]
    by_cases h1 : i + 1 ≤ t ∧ t < i + 1 + xs.length
    · rw [if_pos h1, if_pos (by simp; omega)]
      obtain ⟨k, rfl⟩ : ∃ k, t = i + 1 + k := ⟨t - (i + 1), by omega⟩
      have e1 : i + 1 + k - (i + 1) = k := by omega
      have e2 : i + 1 + k - i = k + 1 := by omega
      rw [e1, e2]; rfl
    · rw [if_neg h1]
      by_cases h2 : t = i
      · subst h2; simp
      · rw [if_neg h2, if_neg (by simp; omega)]

theorem relA_start {args : List AV} {cargs : Array Value} (hl : RelL σ A M args cargs.toList) {n : Nat} (hn : args.length ≤ n) :
    RelA σ A M (frOf args 0 .e) { tmps := cargs ++ Array.replicate (n - cargs.size) undef, defers := [] } := by
  have hlen : args.length = cargs.size := by rw [hl.length]; simp
  refine ⟨fun t v hv => ?_, fun t ht => ?_⟩
  · rw [get_frOf]
    simp only at hv
    by_cases h : t < cargs.size
    · rw [if_pos (by omega)]
      rw [Array.getElem?_append_left h] at hv
      have hx : args[t - 0]? = some args[t] := by simp
      rw [hx]
      obtain ⟨u, hu, hr⟩ := hl.get (j := t) (x := args[t]) (by simp)
      rw [Array.getElem?_toList, hv] at hu
      cases hu
      exact hr
    · rw [if_neg (by omega)]
      rw [Array.getElem?_append_right (by omega)] at hv
      have : v = undef := by
        obtain ⟨hlt, e⟩ := Array.getElem?_eq_some_iff.1 hv
        rw [← e]; simp
      subst this
      rw [T.get_e]
      exact .undef
  · simp only [Array.size_append, Array.size_replicate] at ht
    rw [get_frOf, if_neg (by omega)]
    exact T.get_e _

/-- The marks are taken: what lies ahead of block B is as it was. -/
structure Late (B : Nat) (w w' : World) : Prop where
  os : w'.os = w.os
  tape : w'.tape = w.tape
  output : w'.output = w.output
  size : w'.heap.size = w.heap.size
  old : ∀ j, j < B → w'.heap[j]? = w.heap[j]?

theorem leave_ok {P : Program} {fn : Func} {tmps : Array Value} {R : Ending → World → Prop} : ∀ (ks : List Nat) (w : World), RelH σ A M w h → ks.Nodup → (∀ k ∈ ks, B ≤ k ∧ w.heap[k]? = some (.deferred (some [])) ∧ ¬ Own σ h k) →
    (∀ w', RelH σ A M w' h → Late B w w' → ∃ v, (results fn tmps).run P w' = .ok v w' ∧ R (.returned v) w') → LeavesInM Fence.wide 0 P fn tmps R (ks.map markOf) .returning w
  | [], w, rh, _, _, hfin => by
    obtain ⟨v, h1, h2⟩ := hfin w rh ⟨rfl, rfl, rfl, rfl, fun _ _ => rfl⟩
    exact ⟨v, h1, h2⟩
  | k :: ks, w, rh, nd, hks, hfin => by
    obtain ⟨h1, h2, h3⟩ := hks k (by simp)
    obtain ⟨n1, n2⟩ := List.nodup_cons.1 nd
    refine ⟨by simp, .inl ⟨k, w.putObj k (.deferred none), rfl, run_takeDeferred h2, ?_⟩⟩
    refine leave_ok ks _ (put_nobody rh h2 h3 _) n2 (fun q hq => ?_) (fun w' rh' l => hfin w' rh' ⟨l.os, l.tape, l.output, by rw [l.size]; simp, fun j hj => by rw [l.old j hj]; exact World.putObj_heap_other (by omega)⟩)
    obtain ⟨g1, g2, g3⟩ := hks q (by simp [hq])
    exact ⟨g1, (World.putObj_heap_other (fun e => n1 (by rw [← e]; exact hq))).trans g2, g3⟩

theorem Step.late {w0 : World} {h0 : H} {σ0 : Nat → Loc} {A0 : Nat → Prop} (s : Step σ0 A0 w0 h0 σ A w h) (l : Late w0.heap.size w w') : Step σ0 A0 w0 h0 σ A w' h :=
  ⟨s.agree, s.fresh, l.os.trans s.os, l.tape.trans s.tape, l.output.trans s.output, by rw [l.size]; exact s.size, fun k hk ho => (l.old k hk).trans (s.keep k hk ho), s.own, s.next, s.wb, s.low, s.st, s.mod, s.only⟩

theorem body_ok (ok : E.Ok) {call : CallF} (hc : CallOk E M call) {rd : DrawF} (hr : ∀ n, DrawOk E M n rd) (N : Nat) {f : FuncId} {F : Func} (hF : E.fn f = some F) {args : List AV} {h : H} {z : AV} {h' : H}
    (hx : bodyA E call rd N F args h = some (z, h')) : CallS E M (.fn f) args h z h' := by
  unfold bodyA at hx
  split at hx
  · cases hx
  · rename_i c hb
    rw [cond_eq_if] at hx
    split at hx
    case isFalse => cases hx
    rename_i hcond
    rw [cond_eq_if] at hcond
    split at hcond
    case isFalse => cases hcond
    rename_i hk
    have hln : args.length ≤ F.ntmps := by rw [← ln_eq]; exact Nat.le_of_ble_eq_true hcond
    intro σ A w cargs hl rh
    obtain ⟨hf, _, _⟩ := ok.fn f F hF
    have hlen : args.length = cargs.size := by rw [hl.length]; simp
    refine (callsIn_wide (n := 0)).1 (callsIn_of_wp_marks hf hb trivial (exec_ok ok hc (hr F.ntmps) N none c hk w.heap.size none σ A w h _ _ _ (Nat.le_refl _) rfl (relA_start hl hln) rh (by simp; omega) (DG.nil _ _ _ _ _) ?_))
    have fin : ∀ (fr : Fr) (h1 : H), (match resA E h1 fr F.results.toList with | some xs => some (oneOf xs, h1) | none => none) = some (z, h') →
        ∀ (ex : Exit), (ex = .normal ∨ ex = .ret) → Goes w.heap.size σ A M w h F.ntmps (bodyPostM Fence.wide 0 E.P F (Ans σ A M w h z h') ex) fr h1 := by
      intro fr h1 e ex hex a' w' σ' A' s ra rh' hn d
      split at e
      · rename_i xs hxs
        cases e
        obtain ⟨ks, d1, d2, d3⟩ := d
        have hl : LeavesInM Fence.wide 0 E.P F a'.tmps (Ans σ A M w h (oneOf xs) h') a'.defers .returning w' := by
          rw [d1]
          refine leave_ok ks w' rh' d2 d3 fun w'' rh'' l => ?_
          obtain ⟨v, g1, g2⟩ := results_ok ok rh'' ra hxs
          exact ⟨v, g1, v, σ', A', rfl, s.late l, g2, rh''⟩
        rcases hex with rfl | rfl <;> exact hl
      · cases e
    unfold endA at hx
    cases ho : execC E call rd N F.ntmps none c (frOf args 0 .e) h with
    | no => rw [ho] at hx; cases hx
    | nor fr h1 => rw [ho] at hx; exact fin fr h1 hx .normal (.inl rfl)
    | ret fr h1 => rw [ho] at hx; exact fin fr h1 hx .ret (.inr rfl)
    | ex i fr h1 => rw [ho] at hx; cases hx

theorem callT_ok (ok : E.Ok) {call : CallF} (hc : CallOk E M call) {rd : DrawF} (hr : ∀ n, DrawOk E M n rd) (N : Nat) : CallOk E M (callT E call rd N) := by
  intro t args h z h' hx
  unfold callT at hx
  split at hx
  · split at hx
    · rename_i F hF
      exact body_ok ok hc hr N hF hx
    · cases hx
  · exact round_ok ok hc hr N hx

theorem callN_ok (ok : E.Ok) {rd : CallF → DrawF} (hr : ∀ call, CallOk E M call → ∀ n, DrawOk E M n (rd call)) (N : Nat) : ∀ d, CallOk E M (callN E rd N d)
  | 0 => fun f args h z h' hx => (nomatch (show (none : Option (AV × H)) = some (z, h') from hx))
  | d + 1 => fun f args h z h' hx => by
    have ih := callN_ok ok hr N d
    exact callT_ok ok ih (hr _ ih) N f args h z h' hx
end
end
end Go.Proofs.YtfaemheimmndgaaGreatDoor.XI
