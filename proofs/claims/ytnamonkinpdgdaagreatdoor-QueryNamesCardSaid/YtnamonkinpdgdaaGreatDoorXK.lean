/- Regions, code, calls: that it holds of the model. Part of a verified reckoner of closed runs: no condition. -/
import Derived.Test.YtnamonkinpdgdaaGreatDoorXJ
import Derived.Laws.Sem
import Derived.Tactics
import Derived.LoopN
set_option linter.unusedVariables false
set_option linter.unusedSimpArgs false
namespace Go.Proofs.YtnamonkinpdgdaaGreatDoor.XI
noncomputable section

/-! ### 10. What is shown of calls and code -/

/-- A call that is told of. -/
def CallS (E : Env) (f : FuncId) (args : List AV) (h : H) (z : AV) (h' : H) : Prop :=
  ∀ (σ : Nat → Loc) (A : Nat → Prop) (M : Addr → Option Value) (w : World) (cargs : Array Value), RelL σ A M args cargs.toList → RelH σ A M w h →
    Calls E.P f cargs w fun e w' => ∃ v σ' A', e = .returned v ∧ Step σ A w h σ' A' w' h' ∧ RelV σ' A' M z v ∧ RelH σ' A' M w' h'
def CallOk (E : Env) (call : CallF) : Prop := ∀ f args h z h', call f args h = some (z, h') → CallS E f args h z h'

section
variable {E : Env} {σ σ1 : Nat → Loc} {A A1 : Nat → Prop} {M : Addr → Option Value} {w w1 : World} {h h1 : H} {n : Nat} {Q : Exit → Act → World → Prop}

/-- The rest goes well from each state that these describe. -/
def Goes (σ : Nat → Loc) (A : Nat → Prop) (M : Addr → Option Value) (w : World) (h : H) (n : Nat) (K : Act → World → Prop) (fr' : Fr) (h' : H) : Prop :=
  ∀ (a' : Act) (w' : World) (σ' : Nat → Loc) (A' : Nat → Prop), Step σ A w h σ' A' w' h' → RelA σ' A' M fr' a' → RelH σ' A' M w' h' → a'.tmps.size = n → K a' w'
def OutOk (σ : Nat → Loc) (A : Nat → Prop) (M : Addr → Option Value) (w : World) (h : H) (n : Nat) (Q : Exit → Act → World → Prop) : Out → Prop
  | .no => False
  | .nor fr h' => Goes σ A M w h n (Q .normal) fr h'
  | .ret fr h' => Goes σ A M w h n (Q .ret) fr h'
  | .ex i fr h' => Goes σ A M w h n (Q (.exit i)) fr h'

theorem Goes.step (s : Step σ A w h σ1 A1 w1 h1) {K : Act → World → Prop} {fr' : Fr} {h' : H} (g : Goes σ A M w h n K fr' h') : Goes σ1 A1 M w1 h1 n K fr' h' :=
  fun a' w' σ' A' s' ra rh hn => g a' w' σ' A' (s.trans s') ra rh hn
theorem OutOk.step (s : Step σ A w h σ1 A1 w1 h1) {o : Out} (g : OutOk σ A M w h n Q o) : OutOk σ1 A1 M w1 h1 n Q o := by
  cases o with
  | no => exact g
  | nor fr h' => exact Goes.step s g
  | ret fr h' => exact Goes.step s g
  | ex i fr h' => exact Goes.step s g

def CodeS (E : Env) (n : Nat) (c : Code) (x : Fr → H → Out) : Prop :=
  ∀ (σ : Nat → Loc) (A : Nat → Prop) (M : Addr → Option Value) (w : World) (h : H) (fr : Fr) (a : Act) (Q : Exit → Act → World → Prop),
    RelA σ A M fr a → RelH σ A M w h → a.tmps.size = n → OutOk σ A M w h n Q (x fr h) → c.wp E.P Q a w

theorem size_put (a : Act) (d : Option Tmp) (v : Value) : (a.put d v).tmps.size = a.tmps.size := by cases d <;> simp [Act.put]

theorem dstOk_lt {n : Nat} {d : Option Tmp} (h : dstOk n d = true) : ∀ t, d = some t → t < n := by
  intro t e
  subst e
  have h : Nat.ble (Nat.succ t) n = true := h
  exact Nat.le_of_ble_eq_true h

/-! #### A region in the order of its text -/
theorem wantedG_ok {all : Array Oper} {fr : Fr} {a : Act} (ra : RelA σ A M fr a) {o : Oper} {b : Bool} (hb : wantedG all.toList fr o.guard = some b) : Region.wanted o (yielded all a.tmps) = b := by
  unfold wantedG at hb
  unfold Region.wanted
  split at hb
  · rename_i hg; cases hb; simp [hg]
  · rename_i j want hg
    simp only [hg]
    rw [nt_eq, Array.getElem?_toList] at hb
    unfold yielded
    cases hj : all[j]? with
    | none => rw [hj] at hb; cases hb; simp
    | some oj =>
      rw [hj] at hb
      simp only at hb
      simp only [Option.bind_some]
      cases hd : oj.dst with
      | none => rw [hd] at hb; cases hb; simp
      | some t =>
        rw [hd] at hb
        simp only at hb
        simp only [Option.bind_some]
        cases ht : a.tmps[t]? with
        | none =>
          rw [ra.out t (Array.getElem?_eq_none_iff.1 ht)] at hb
          cases hb
          simp
        | some v =>
          have hr := ra.tmps t v ht
          cases hf : fr.get t with
          | none =>
            rw [hf] at hb hr
            cases hb
            have hr : RelV σ A M (.tup []) v := hr
            cases hr
            simp
          | some x =>
            rw [hf] at hb hr
            have hr : RelV σ A M x v := hr
            cases hr <;> (try (cases hb; simp; done)) <;> (try (cases hb; done))
            rename_i c
            simp only [Option.some.injEq] at hb
            rw [← hb]
            cases c <;> cases want <;> rfl

theorem opA_ok (ok : E.Ok) {call : CallF} (hc : CallOk E call) {fr : Fr} {a : Act} (ra : RelA σ A M fr a) (rh : RelH σ A M w h) {o : Oper} {v : AV} {h' : H} (hx : opA E call o.op fr h = some (v, h'))
    {K : Act → World → Prop} (hK : ∀ (u : Value) (w' : World) (σ' : Nat → Loc) (A' : Nat → Prop), Step σ A w h σ' A' w' h' → RelV σ' A' M v u → RelH σ' A' M w' h' → K (a.put o.dst u) w') : o.wp E.P a w K Q := by
  unfold opA at hx
  unfold Oper.wp
  split at hx
  · rename_i v' h1 hy
    cases hx
    obtain ⟨u, w', hr, σ', A', s1, s2, s3⟩ := aop_ok ok rh ra hy
    rcases hr with hr | ⟨hr, rfl⟩
    · rw [hr]; exact hK _ _ _ _ s1 s2 s3
    · rw [hr]; exact hK _ _ _ _ s1 s2 s3
  · rename_i f xs hy
    obtain ⟨F, hF, cargs, hr, hl⟩ := aop_enter (w := w) ok ra hy
    rw [hr]
    refine Calls.mono (hc _ _ _ _ _ hx σ A M w cargs hl rh) fun e w' he => ?_
    obtain ⟨u, σ', A', rfl, s1, s2, s3⟩ := he
    exact hK _ _ _ _ s1 s2 s3
  · cases hx

theorem opsA_ok (ok : E.Ok) {call : CallF} (hc : CallOk E call) {all : Array Oper} : ∀ (l : List Oper) (σ : Nat → Loc) (A : Nat → Prop) (w : World) (h : H) (fr : Fr) (a : Act),
    l.all (fun o => dstOk n o.dst) = true → RelA σ A M fr a → RelH σ A M w h → a.tmps.size = n → OutOk σ A M w h n Q (opsA E call all.toList l fr h) → wpList E.P all Q l a w
  | [], σ, A, w, h, fr, a, _, ra, rh, hn, g => g a w σ A (Step.refl _ _ _ _) ra rh hn
  | o :: l, σ, A, w, h, fr, a, hd, ra, rh, hn, g => by
    simp only [List.all_cons, Bool.and_eq_true] at hd
    have hdst : ∀ t, o.dst = some t → t < a.tmps.size := by rw [hn]; exact dstOk_lt hd.1
    have g : OutOk σ A M w h n Q (opsS E call all.toList o (opsA E call all.toList l) fr h) := g
    unfold opsS at g
    unfold wpList
    cases hw : wantedG all.toList fr o.guard with
    | none => rw [hw] at g; exact g.elim
    | some b =>
      rw [hw] at g
      rw [wantedG_ok ra hw]
      cases b with
      | false => exact opsA_ok ok hc l σ A w h _ _ hd.2 (ra.put .undef hdst) rh (by rw [size_put]; exact hn) g
      | true =>
        simp only [if_true]
        left
        cases hx : opA E call o.op fr h with
        | none => rw [hx] at g; exact g.elim
        | some p =>
          obtain ⟨v, h'⟩ := p
          rw [hx] at g
          refine opA_ok ok hc ra rh hx fun u w' σ' A' s1 s2 s3 => ?_
          have ra' : RelA σ' A' M fr a := ⟨fun t v hv => s1.relV (ra.tmps t v hv), ra.out, ra.defers⟩
          exact opsA_ok ok hc l σ' A' w' h' _ _ hd.2 (ra'.put s2 hdst) s3 (by rw [size_put]; exact hn) (OutOk.step s1 g)

/-- What is asked of the way in which drawn regions are gone through. -/
def DrawOk (E : Env) (n : Nat) (rd : DrawF) : Prop := ∀ (id : Nat) (ops : Array Oper), ops.toList.all (fun o => dstOk n o.dst) = true → CodeS E n (.region id ops true) (rd ops.toList)

/-! #### Code -/
theorem seq_out {k : Fr → H → Out} {o : Out} {Q' : Exit → Act → World → Prop} (g : OutOk σ A M w h n Q (Out.seq k o))
    (hno : ∀ fr h', OutOk σ A M w h n Q (k fr h') → Goes σ A M w h n (Q' .normal) fr h') (hr : ∀ a w, Q .ret a w → Q' .ret a w) (he : ∀ i a w, Q (.exit i) a w → Q' (.exit i) a w) : OutOk σ A M w h n Q' o := by
  cases o with
  | no => exact g
  | nor fr h' => exact hno fr h' g
  | ret fr h' => exact fun a' w' σ' A' s ra rh hn => hr _ _ (g a' w' σ' A' s ra rh hn)
  | ex i fr h' => exact fun a' w' σ' A' s ra rh hn => he _ _ _ (g a' w' σ' A' s ra rh hn)

theorem rounds_ok {c : Code} {x : Fr → H → Out} (hb : CodeS E n c x) : ∀ (N : Nat) (σ : Nat → Loc) (A : Nat → Prop) (w : World) (h : H) (fr : Fr) (a : Act),
    RelA σ A M fr a → RelH σ A M w h → a.tmps.size = n → OutOk σ A M w h n Q (iter x N fr h) → Code.rounds E.P c Q N a w
  | 0, σ, A, w, h, fr, a, ra, rh, hn, g => (show False from g).elim
  | N + 1, σ, A, w, h, fr, a, ra, rh, hn, g => by
    rw [rounds_succ]
    have g : OutOk σ A M w h n Q (Out.seq (iter x N) (x fr h)) := g
    refine hb σ A M w h fr a _ ra rh hn (seq_out g (fun fr' h' g' a' w' σ' A' s ra rh hn => ?_) (fun _ _ q => q) (fun _ _ _ q => q))
    exact rounds_ok hb N σ' A' w' h' fr' a' ra rh hn (OutOk.step s g')

theorem exec_ok (ok : E.Ok) {call : CallF} (hc : CallOk E call) {rd : DrawF} (hr : DrawOk E n rd) (N : Nat) (c : Code) (hk : codeOk n c = true) : CodeS E n c (execC E call rd N c) := by
  induction c with
  | skip => exact fun σ A M w h fr a Q ra rh hn g => wp_skip (g a w σ A (Step.refl _ _ _ _) ra rh hn)
  | region id ops draw =>
    have hk2 : ops.toList.all (fun o => dstOk n o.dst) = true := by rw [← al_eq]; exact hk
    clear hk
    cases draw with
    | false => exact fun σ A M w h fr a Q ra rh hn g => wp_region_list (opsA_ok ok hc ops.toList σ A w h fr a hk2 ra rh hn g)
    | true => exact hr id ops hk2
  | seq x y ihx ihy =>
    have hk : cond (codeOk n x) (codeOk n y) false = true := hk
    rw [cond_eq_if] at hk
    have hkx : codeOk n x = true := by revert hk; cases codeOk n x <;> simp
    rw [hkx] at hk
    intro σ A M w h fr a Q ra rh hn g
    have g : OutOk σ A M w h n Q (Out.seq (execC E call rd N y) (execC E call rd N x fr h)) := g
    refine wp_seq (ihx hkx σ A M w h fr a _ ra rh hn (seq_out g (fun fr' h' g' a' w' σ' A' s ra rh hn => ?_) (fun _ _ q => q) (fun _ _ _ q => q)))
    exact ihy (by simpa using hk) σ' A' M w' h' fr' a' Q ra rh hn (OutOk.step s g')
  | cond c x y ihx ihy =>
    have hk : cond (codeOk n x) (codeOk n y) false = true := hk
    rw [cond_eq_if] at hk
    have hkx : codeOk n x = true := by revert hk; cases codeOk n x <;> simp
    rw [hkx] at hk
    intro σ A M w h fr a Q ra rh hn g
    have g : OutOk σ A M w h n Q (cBranch (ev fr c) (execC E call rd N x fr h) (execC E call rd N y fr h)) := g
    unfold cBranch at g
    split at g
    · rename_i t ht
      have hv := ra.ev c
      rw [ht] at hv
      have hv : a.eval c = .bool t := by generalize a.eval c = u at hv; cases hv; rfl
      refine wp_cond hv ?_
      cases t with
      | true => exact ihx hkx σ A M w h fr a Q ra rh hn g
      | false => exact ihy (by simpa using hk) σ A M w h fr a Q ra rh hn g
    · exact g.elim
  | block id x ih =>
    intro σ A M w h fr a Q ra rh hn g
    have g : OutOk σ A M w h n Q (Out.blk id (execC E call rd N x fr h)) := g
    refine wp_block (ih hk σ A M w h fr a _ ra rh hn ?_)
    cases ho : execC E call rd N x fr h with
    | no => rw [ho] at g; exact g
    | nor fr' h' => rw [ho] at g; exact g
    | ret fr' h' => rw [ho] at g; exact g
    | ex i fr' h' =>
      rw [ho] at g
      have g : OutOk σ A M w h n Q (Bool.rec (motive := fun _ => Out) (.ex i fr' h') (.nor fr' h') (Nat.beq i id)) := g
      intro a' w' σ' A' s ra rh hn
      simp only [Exit.inBlock]
      rw [natBeq] at g
      by_cases hi : i = id
      · rw [if_pos hi]
        rw [decide_eq_true hi] at g
        exact g a' w' σ' A' s ra rh hn
      · rw [if_neg hi]
        rw [decide_eq_false hi] at g
        exact g a' w' σ' A' s ra rh hn
  | loop x ih => exact fun σ A M w h fr a Q ra rh hn g => wp_loop_rounds N (rounds_ok (ih hk) N σ A w h fr a ra rh hn g)
  | rangeFunc f ps x y => exact absurd hk (by intro e; cases e)
  | exit i => exact fun σ A M w h fr a Q ra rh hn g => wp_exit (g a w σ A (Step.refl _ _ _ _) ra rh hn)
  | scope x => exact absurd hk (by intro e; cases e)
  | label l => exact fun σ A M w h fr a Q ra rh hn g => wp_label (g a w σ A (Step.refl _ _ _ _) ra rh hn)
  | goto l => exact absurd hk (by intro e; cases e)
  | ret => exact fun σ A M w h fr a Q ra rh hn g => wp_ret (g a w σ A (Step.refl _ _ _ _) ra rh hn)
  | refuse s => exact absurd hk (by intro e; cases e)

/-! #### Results, bodies -/
def res1 (tmps : Array Value) : ResultVar → Sem Value
  | .tmp t => pure (tmps.getD t undef)
  | .cell a t => do loadVar t (← asAddr (tmps.getD a undef))

theorem resA_ok (ok : E.Ok) (rh : RelH σ A M w h) {fr : Fr} {a : Act} (ra : RelA σ A M fr a) : ∀ (rs : List ResultVar) (xs : List AV), resA E h fr rs = some xs →
    ∃ vs, (rs.mapM (res1 a.tmps)).run E.P w = .ok vs w ∧ RelL σ A M xs vs
  | [], xs, hx => by cases hx; exact ⟨[], rfl, .nil⟩
  | .tmp t :: rs, xs, hx => by
    have hx : (match resA E h fr rs with | some xs => some (slotOf (fr.get t) :: xs) | none => none) = some xs := hx
    split at hx
    · rename_i ys hy
      cases hx
      obtain ⟨vs, h1, h2⟩ := resA_ok ok rh ra rs ys hy
      refine ⟨a.tmps.getD t undef :: vs, by simp [List.mapM_cons, res1, h1], .cons _ _ _ _ ?_ h2⟩
      exact ra.ev (.tmp t)
    · cases hx
  | .cell c t :: rs, xs, hx => by
    have hx : (match aLoad E h t (slotOf (fr.get c)), resA E h fr rs with | some x, some xs => some (x :: xs) | _, _ => none) = some xs := hx
    split at hx
    · rename_i x ys hl hy
      cases hx
      obtain ⟨vs, h1, h2⟩ := resA_ok ok rh ra rs ys hy
      unfold aLoad at hl
      split at hl
      · rename_i i cs hi hcs
        have hv := ra.ev (.tmp c)
        obtain ⟨ad, us, he, g2, g3⟩ := aCells_ok rh hcs hv
        obtain ⟨u, hu, hr⟩ := loadVar_ok ok hi hl g2 g3
        have he : a.tmps.getD c undef = .pointer (some ad) := he
        refine ⟨u :: vs, ?_, .cons _ _ _ _ hr h2⟩
        simp only [List.mapM_cons, res1, he, asAddr, Sem.run_bind, Sem.run_pure, Result.andThen_ok, hu, h1]
      · cases hl
    · cases hx

theorem results_ok (ok : E.Ok) (rh : RelH σ A M w h) {fr : Fr} {a : Act} (ra : RelA σ A M fr a) {F : Func} {xs : List AV} (hx : resA E h fr F.results.toList = some xs) :
    ∃ v, (results F a.tmps).run E.P w = .ok v w ∧ RelV σ A M (oneOf xs) v := by
  obtain ⟨vs, h1, h2⟩ := resA_ok ok rh ra _ _ hx
  have e : results F a.tmps = (do let vs ← F.results.mapM (res1 a.tmps); pure (if h : vs.size = 1 then vs[0] else .tuple vs)) := by
    unfold results
    congr 1
  rw [e, Array.mapM_eq_mapM_toList]
  simp only [Sem.run_bind, Sem.run_map, h1]
  simp only [Result.andThen_ok, Sem.run_pure]
  refine ⟨_, rfl, ?_⟩
  cases h2 with
  | nil => simp only [oneOf]; exact .tup _ _ .nil
  | cons x v xs vs r1 r2 =>
    cases r2 with
    | nil => simp only [oneOf]; exact r1
    | cons y u ys us r3 r4 => simp only [oneOf]; exact .tup _ _ (.cons _ _ _ _ r1 (.cons _ _ _ _ r3 r4))

theorem get_frOf : ∀ (xs : List AV) (i : Nat) (fr : Fr) (t : Nat), (frOf xs i fr).get t = if i ≤ t ∧ t < i + xs.length then xs[t - i]? else fr.get t
  | [], i, fr, t => by
    rw [if_neg (by simp only [List.length_nil]; omega)]; rfl
  | x :: xs, i, fr, t => by
    have ih := get_frOf xs (i + 1) (fr.put i (some x)) t
    show (frOf xs (i + 1) (fr.put i (some x))).get t = _
    rw [ih, T.get_put]
    by_cases h1 : i + 1 ≤ t ∧ t < i + 1 + xs.length
    · rw [if_pos h1, if_pos (by simp; omega)]
      obtain ⟨k, rfl⟩ : ∃ k, t = i + 1 + k := ⟨t - (i + 1), by omega⟩
      have e1 : i + 1 + k - (i + 1) = k := by omega
      have e2 : i + 1 + k - i = k + 1 := by omega
      rw [e1, e2]; rfl
    · rw [if_neg h1]
      by_cases h2 : t = i
      · subst h2; simp
      · rw [if_neg h2, if_neg (by simp; omega)]

theorem relA_start {args : List AV} {cargs : Array Value} (hl : RelL σ A M args cargs.toList) {n : Nat} (hn : args.length ≤ n) :
    RelA σ A M (frOf args 0 .e) { tmps := cargs ++ Array.replicate (n - cargs.size) undef, defers := [] } := by
  have hlen : args.length = cargs.size := by rw [hl.length]; simp
  refine ⟨fun t v hv => ?_, fun t ht => ?_, rfl⟩
  · rw [get_frOf]
    simp only at hv
    by_cases h : t < cargs.size
    · rw [if_pos (by omega)]
      rw [Array.getElem?_append_left h] at hv
      have hx : args[t - 0]? = some args[t] := by simp
      rw [hx]
      obtain ⟨u, hu, hr⟩ := hl.get (j := t) (x := args[t]) (by simp)
      rw [Array.getElem?_toList, hv] at hu
      cases hu
      exact hr
    · rw [if_neg (by omega)]
      rw [Array.getElem?_append_right (by omega)] at hv
      have : v = undef := by
        obtain ⟨hlt, e⟩ := Array.getElem?_eq_some_iff.1 hv
        rw [← e]; simp
      subst this
      rw [T.get_e]
      exact .undef
  · simp only [Array.size_append, Array.size_replicate] at ht
    rw [get_frOf, if_neg (by omega)]
    exact T.get_e _

theorem body_ok (ok : E.Ok) {call : CallF} (hc : CallOk E call) {rd : DrawF} (hr : ∀ n, DrawOk E n rd) (N : Nat) {f : FuncId} {F : Func} (hF : E.fn f = some F) {args : List AV} {h : H} {z : AV} {h' : H}
    (hx : bodyA E call rd N F args h = some (z, h')) : CallS E f args h z h' := by
  unfold bodyA at hx
  split at hx
  · cases hx
  · rename_i c hb
    rw [cond_eq_if] at hx
    split at hx
    case isFalse => cases hx
    rename_i hcond
    rw [cond_eq_if] at hcond
    split at hcond
    case isFalse => cases hcond
    rename_i hk
    have hln : args.length ≤ F.ntmps := by rw [← ln_eq]; exact Nat.le_of_ble_eq_true hcond
    intro σ A M w cargs hl rh
    obtain ⟨hf, _, _⟩ := ok.fn f F hF
    have hlen : args.length = cargs.size := by rw [hl.length]; simp
    refine calls_of_wp hf hb (exec_ok ok hc (hr F.ntmps) N c hk σ A M w h _ _ _ (relA_start hl hln) rh (by simp; omega) ?_)
    have fin : ∀ (fr : Fr) (h1 : H), (match resA E h1 fr F.results.toList with | some xs => some (oneOf xs, h1) | none => none) = some (z, h') →
        ∀ (ex : Exit), (ex = .normal ∨ ex = .ret) → Goes σ A M w h F.ntmps (bodyPost E.P F (fun e w' => ∃ v σ' A', e = .returned v ∧ Step σ A w h σ' A' w' h' ∧ RelV σ' A' M z v ∧ RelH σ' A' M w' h') ex) fr h1 := by
      intro fr h1 e ex hex a' w' σ' A' s ra rh' hn
      split at e
      · rename_i xs hxs
        cases e
        obtain ⟨v, g1, g2⟩ := results_ok ok rh' ra hxs
        rcases hex with rfl | rfl <;> exact ⟨ra.defers, v, g1, v, σ', A', rfl, s, g2, rh'⟩
      · cases e
    unfold endA at hx
    cases ho : execC E call rd N c (frOf args 0 .e) h with
    | no => rw [ho] at hx; cases hx
    | nor fr h1 => rw [ho] at hx; exact fin fr h1 hx .normal (.inl rfl)
    | ret fr h1 => rw [ho] at hx; exact fin fr h1 hx .ret (.inr rfl)
    | ex i fr h1 => rw [ho] at hx; cases hx

theorem callN_ok (ok : E.Ok) {rd : CallF → DrawF} (hr : ∀ call, CallOk E call → ∀ n, DrawOk E n (rd call)) (N : Nat) : ∀ d, CallOk E (callN E rd N d)
  | 0 => fun f args h z h' hx => (nomatch (show (none : Option (AV × H)) = some (z, h') from hx))
  | d + 1 => fun f args h z h' hx => by
    have ih := callN_ok ok hr N d
    have hx : (match E.fn f with | some F => bodyA E (callN E rd N d) (rd (callN E rd N d)) N F args h | none => none) = some (z, h') := hx
    split at hx
    · rename_i F hF
      exact body_ok ok ih (hr _ ih) N hF hx
    · cases hx
end
end
end Go.Proofs.YtnamonkinpdgdaaGreatDoor.XI
