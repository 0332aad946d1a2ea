import Derived.Test.YtoobfpnphhcaoaaGreatDoorT09
import Derived.Test.YtoobfpnphhcaoaaGreatDoorT10
import Derived.Test.YtoobfpnphhcaoaaGreatDoorT01
import Derived.Test.YtoobfpnphhcaoaaGreatDoorT03
import Derived.Test.YtoobfpnphhcaoaaGreatDoorT00
set_option linter.unusedVariables false
set_option linter.unusedSimpArgs false
/- Code and functions: what the machine gives, the evaluator gives. -/
namespace Go.Ab.E
open Go.Ab

variable {ω : Type} {P : Program} {out : ω} {env : List Nat} {call : CallH ω} {n : Nat} {rounds : Nat}

theorem envB_agr {fr : Fr} {a : AF} (R : FrR env fr a) : ∀ {ts : List Nat}, readsOk env ts = true → Agr ts ((envB env ts).run fr) a.env
  | [], _ => fun t ht _ => by cases ht
  | t :: ts, h => by
    simp only [readsOk] at h
    split at h
    · rename_i s hs hb
      have ih := envB_agr R h
      have hlt := Nat.blt_eq.mp hb
      intro u hu hu512
      have e : (envB env (t :: ts)).run fr = Env.set ((envB env ts).run fr) t (fr.get s) := by
        simp only [envB, hs]
        rw [← getX_eq s [] fr]
      rw [e, Env.get_set _ _ hlt hu512]
      by_cases hut : u = t
      · subst hut
        rw [if_pos rfl]
        exact (R.val u s hs hlt).symm
      · rw [if_neg hut]
        refine ih u ?_ hu512
        simp only [hasT] at hu
        split at hu
        · rename_i hb2; exact absurd (Nat.eq_of_beq_eq_true hb2) hut
        · exact hu
    · cases h

theorem updB_ds (e : Env) : ∀ (os : List Oper) (fr : Fr), ((updB env os).run e fr).ds = fr.ds
  | [], fr => rfl
  | ⟨none, _, _, _, _, _⟩ :: os, fr => updB_ds e os fr
  | ⟨some t, _, _, _, _, _⟩ :: os, fr => by
    simp only [updB]
    cases hs : slotOf env t with
    | none => exact updB_ds e os fr
    | some s =>
      show ((updB env os).run e ((setX s).run (Env.get e t) fr)).ds = _
      rw [updB_ds e os, setX_eq, Fr.ds_set]

theorem updB_get (e : Env) : ∀ (os : List Oper) (fr : Fr) (t : Nat) (s : Sl), slotOf env t = some s → ((updB env os).run e fr).get s = if writes t os = true then e.get t else fr.get s
  | [], fr, t, s, _ => rfl
  | ⟨none, _, _, _, _, _⟩ :: os, fr, t, s, hs => updB_get e os fr t s hs
  | ⟨some u, o1, o2, o3, o4, o5⟩ :: os, fr, t, s, hs => by
      have hwr : writes t (⟨some u, o1, o2, o3, o4, o5⟩ :: os) = (match Nat.beq t u with | true => true | false => writes t os) := rfl
      have hup : updB env (⟨some u, o1, o2, o3, o4, o5⟩ :: os) = (match slotOf env u with
        | some s => UB.rec (motive := fun _ => UB) (fun f => XS.rec (motive := fun _ => UB) (fun g => ⟨fun e fr => f e (g (Env.get e u) fr)⟩) (setX s)) (updB env os)
        | none => updB env os) := rfl
      cases hu : slotOf env u with
      | none =>
        have hne : Nat.beq t u = false := by
          cases hb : Nat.beq t u with
          | false => rfl
          | true => have := Nat.eq_of_beq_eq_true hb; subst this; rw [hs] at hu; cases hu
        rw [hne] at hwr
        rw [hu] at hup
        rw [hwr, hup]
        exact updB_get e os fr t s hs
      | some s' =>
        rw [hu] at hup
        rw [hup]
        show ((updB env os).run e ((setX s').run (Env.get e u) fr)).get s = _
        rw [updB_get e os _ t s hs, setX_eq, Fr.get_set]
        cases hb : Nat.beq t u with
        | true =>
          have := Nat.eq_of_beq_eq_true hb
          subst this
          rw [hs] at hu; cases hu
          rw [hb] at hwr
          rw [hwr]
          simp only [if_true]
          split <;> rfl
        | false =>
          rw [hb] at hwr
          rw [hwr]
          have hne : s ≠ s' := fun he => by
            subst he
            have := slotOf_inj hs hu
            subst this
            rw [Nat.beq_refl] at hb; cases hb
          simp only [if_neg hne]

theorem dstL_mono : ∀ (p : List Step) (A : List Nat) (t : Nat), hasT t A = true → hasT t (dstL p A) = true
  | [], A, t, h => h
  | s :: ss, A, t, h => by
    simp only [dstL]
    refine dstL_mono ss _ t ?_
    split
    · simp only [hasT]; split
      · rfl
      · exact h
    · exact h

theorem writes_dstL : ∀ (p : List Step) (A : List Nat) (t : Nat), writes t (p.map Step.op) = true → hasT t (dstL p A) = true
  | [], A, t, h => by cases h
  | s :: ss, A, t, h => by
    simp only [List.map_cons, writes] at h
    simp only [dstL]
    cases hd : s.op.dst with
    | none =>
      rw [hd] at h
      exact writes_dstL ss _ t h
    | some u =>
      rw [hd] at h
      simp only at h
      split at h
      · rename_i hb
        exact dstL_mono ss _ t (by simp only [hasT, hb])
      · exact writes_dstL ss _ t h

theorem planOf_X {T : F.Tb} {ops : List Oper} {p : List Step} (h : F.planOf T ops = some p) : p = planX T ops := by
  unfold F.planOf at h
  simp only at h
  split at h
  · split at h
    · cases h; rfl
    · cases h
  · cases h

theorem cdrawn_sim {pq : Nat → Bool} {cx : Cx ω} (hn : n ≤ 512) {ops : List Oper} (hp : (match F.planOf (F.tb P) ops with | some _ => true | none => false) = true) {next : I ω} {k : AF → AH → Option ω} (hq : CalmSim pq (Cx.call cx) call out) (hc : CallSim (Cx.call cx) call out)
    (hk : ∀ l' fr' a' h', FrR env fr' a' → next.run cx l' fr' h' = some out → k a' h' = some out) {l : Loc} {fr : Fr} {h : AH} {a : AF} (R : FrR env fr a)
    (e : (cdrawn (F.tb P) pq n env ops next).run cx l fr h = some out) : ∃ p, F.planOf (F.tb P) ops = some p ∧ F.stepsA (F.tb P) call n ops p a h [] [] k = some out := by
  split at hp
  · rename_i p hpl
    have hpx := planOf_X hpl
    refine ⟨p, hpl, ?_⟩
    unfold cdrawn at e
    rw [← hpx] at e
    split at e
    · rename_i hkn hro
      have e' : stepsQ (F.tb P) pq (Cx.call cx) n ops p ⟨(envB env (readsOf env ops [])).run fr, fr.ds⟩ h [] [] (fun a' h' => next.run cx l ((updB env (p.map Step.op)).run a'.env fr) h') = some out := e
      rw [fast_stepsA]
      refine stepsQ_sim hq hc hn p _ _ a h [] [] [] hkn (envB_agr R hro) R.ds.symm .nil (fun _ s hs => by cases hs) (fun a1 a2 h' g d1 d2 hw e2 => ?_) e'
      refine hk l _ a2 h' ⟨by rw [d2, updB_ds]; exact R.ds, fun t s hs ht => ?_⟩ e2
      rw [updB_get _ _ _ t s hs]
      split
      · rename_i hwr
        exact (g t (writes_dstL p _ t hwr) ht).symm
      · rename_i hwr
        rw [hw t ht (by simpa using hwr)]
        exact R.val t s hs ht
    · cases e
  · cases hp

theorem findX_deeper : ∀ {ex : List (Ex ω)} {id : Nat} {x : Ex ω}, findX id (deeper ex) = some x → ∃ y, findX id ex = some y ∧ x.to = y.to ∧ x.ups = y.ups + 1
  | [], id, x, h => by cases h
  | y :: ex, id, x, h => by
    simp only [deeper, findX] at h ⊢
    split at h
    · cases h; exact ⟨y, rfl, rfl, rfl⟩
    · exact findX_deeper h

/-- What ends a function hangs on the calls and on what follows it alone. -/
def EndOk (ret : I ω) : Prop := ∀ (cx cx' : Cx ω) (l l' : Loc) (fr : Fr) (h : AH), Cx.call cx' = Cx.call cx → Cx.k cx' = Cx.k cx → ret.run cx' l' fr h = ret.run cx l fr h

theorem plans_two {T : F.Tb} {x y : Code} (h : (match plansC T x with | true => plansC T y | false => false) = true) : plansC T x = true ∧ plansC T y = true := by
  split at h
  · rename_i hx; exact ⟨hx, h⟩
  · cases h

theorem ccode_sim {pq : Nat → Bool} (hn : n ≤ 512) {ret : I ω} (hend : EndOk ret) : ∀ (c : Code) (ex : List (Ex ω)) (next : I ω) (cx : Cx ω) (l : Loc) (fr : Fr) (h : AH) (a : AF) (kk : KX ω), plansC (F.tb P) c = true → CalmSim pq (Cx.call cx) call out ∧ CallSim (Cx.call cx) call out → FrR env fr a →
    (∀ l' fr' a' h', FrR env fr' a' → next.run cx l' fr' h' = some out → kk .normal a' h' = some out) →
    (∀ id x, findX id ex = some x → ∀ fr' a' h', FrR env fr' a' → x.to.run (upX x.ups cx) [] fr' h' = some out → kk (.exit id) a' h' = some out) →
    (∀ fr' a' h', FrR env fr' a' → ret.run cx [] fr' h' = some out → kk .ret a' h' = some out) →
    (ccode (F.tb P) pq rounds n env ret c ex next).run cx l fr h = some out → F.evCode (F.tb P) call rounds n c a h kk = some out := by
  intro c
  induction c with
  | skip => intro ex next cx l fr h a kk hpl hc R hk hx hr e; exact hk l fr a h R e
  | label x => intro ex next cx l fr h a kk hpl hc R hk hx hr e; exact hk l fr a h R e
  | ret =>
    intro ex next cx l fr h a kk hpl hc R hk hx hr e
    exact hr fr a h R (by rw [hend cx cx l [] fr h rfl rfl]; exact e)
  | exit id =>
    intro ex next cx l fr h a kk hpl hc R hk hx hr e
    simp only [ccode] at e
    split at e
    · rename_i i to m hf
      exact hx id _ hf fr a h R e
    · cases e
  | region id ops draw =>
    intro ex next cx l fr h a kk hpl hc R hk hx hr e
    cases draw with
    | false =>
      simp only [F.evCode]
      exact cregion_sim hn hc.2 (fun l' fr' a' h' R' e' => hk l' fr' a' h' R' e') ops.toList [] 0 l fr h a R ⟨fun t s h => (by cases h), fun t i h => (by cases h), fun t y h => (by cases h)⟩ e
    | true =>
      obtain ⟨p, h1, h2⟩ := cdrawn_sim hn hpl hc.1 hc.2 (fun l' fr' a' h' R' e' => hk l' fr' a' h' R' e') R e
      simp only [F.evCode, h1]
      exact h2
  | seq x y ihx ihy =>
    intro ex next cx l fr h a kk hpl hc R hk hx hr e
    simp only [F.evCode]
    obtain ⟨hp1, hp2⟩ := plans_two hpl
    refine ihx ex _ cx l fr h a _ hp1 hc R (fun l' fr' a' h' R' e' => ?_) (fun id x' hf fr' a' h' R' e' => hx id x' hf fr' a' h' R' e') (fun fr' a' h' R' e' => hr fr' a' h' R' e') e
    exact ihy ex next cx l' fr' h' a' kk hp2 hc R' hk hx hr e'
  | cond c x y ihx ihy =>
    intro ex next cx l fr h a kk hpl hc R hk hx hr e
    simp only [ccode] at e
    obtain ⟨hp1, hp2⟩ := plans_two hpl
    split at e
    · rename_i xa hb
      have hv := baseX_run R hb l
      obtain ⟨f⟩ := xa
      have e' : boolE (f l fr) (fun b => Bool.rec ((ccode (F.tb P) pq rounds n env ret y ex next).run cx l fr h) ((ccode (F.tb P) pq rounds n env ret x ex next).run cx l fr h) b) = some out := e
      obtain ⟨b, hb', e1⟩ := boolE_some e'
      have hv' : opv a.env c = .bool b := by rw [← hv]; exact hb'
      simp only [F.evCode, hv']
      rcases boolRec_some e1 with ⟨rfl, e2⟩ | ⟨rfl, e2⟩
      · exact ihx ex next cx l fr h a kk hp1 hc R hk hx hr e2
      · exact ihy ex next cx l fr h a kk hp2 hc R hk hx hr e2
    · cases e
  | block id c ih =>
    intro ex next cx l fr h a kk hpl hc R hk hx hr e
    simp only [F.evCode]
    refine ih _ next cx l fr h a _ hpl hc R (fun l' fr' a' h' R' e' => hk l' fr' a' h' R' e') (fun id' x' hf fr' a' h' R' e' => ?_) (fun fr' a' h' R' e' => hr fr' a' h' R' e') e
    simp only [findX] at hf
    simp only
    split at hf
    · rename_i hb
      cases hf
      rw [hb]
      exact hk [] fr' a' h' R' e'
    · rename_i hb
      rw [hb]
      exact hx id' x' hf fr' a' h' R' e'
  | loop c ih =>
    intro ex next cx l fr h a kk hpl hc R hk hx hr e
    simp only [F.evCode]
    have key : ∀ (r : Nat) (fr : Fr) (h : AH) (a : AF), FrR env fr a → loopI (ccode (F.tb P) pq rounds n env ret c (deeper ex) backI) r cx fr h = some out → loopE (F.evCode (F.tb P) call rounds n c) r a h kk = some out := by
      intro r
      induction r with
      | zero => intro fr h a R e; cases e
      | succ r ihr =>
        intro fr h a R e
        have e' : (ccode (F.tb P) pq rounds n env ret c (deeper ex) backI).run (.loop (Cx.call cx) (Cx.k cx) (loopI (ccode (F.tb P) pq rounds n env ret c (deeper ex) backI) r cx) cx) [] fr h = some out := e
        simp only [loopE]
        refine ih (deeper ex) backI (.loop (Cx.call cx) (Cx.k cx) (loopI (ccode (F.tb P) pq rounds n env ret c (deeper ex) backI) r cx) cx) [] fr h a _ hpl hc R (fun l' fr' a' h' R' e2 => ihr fr' h' a' R' e2) (fun id x' hf fr' a' h' R' e2 => ?_) (fun fr' a' h' R' e2 => hr fr' a' h' R' ?_) e'
        · obtain ⟨y, h1, h2, h3⟩ := findX_deeper hf
          refine hx id y h1 fr' a' h' R' ?_
          rw [h2, h3] at e2
          exact e2
        · have := hend cx (.loop (Cx.call cx) (Cx.k cx) (loopI (ccode (F.tb P) pq rounds n env ret c (deeper ex) backI) r cx) cx) [] [] fr' h' rfl rfl
          rw [← this]; exact e2
    exact key rounds fr h a R e
  | scope c ih =>
    intro ex next cx l fr h a kk hpl hc R hk hx hr e
    simp only [F.evCode]
    exact ih ex next cx l fr h a kk hpl hc R hk hx hr e
  | rangeFunc f ps x y ihx ihy => intro ex next cx l fr h a kk hpl hc R hk hx hr e; cases e
  | goto l' => intro ex next cx l fr h a kk hpl hc R hk hx hr e; cases e
  | refuse why => intro ex next cx l fr h a kk hpl hc R hk hx hr e; cases e

/-! ### functions -/

theorem resX_sim {T : F.Tb} {fr : Fr} {a : AF} (R : FrR env fr a) {h : AH} : ∀ (rs : List ResultVar) (f : List AV → Option ω), (resX T env rs).run fr h f = some out → ∃ l, F.resultsA T a.env h rs = some l ∧ f l = some out
  | [], f, e => ⟨[], rfl, e⟩
  | .tmp t :: rs, f, e => by
    simp only [resX] at e
    split at e
    · rename_i xa hb
      have hv := baseX_run R hb []
      have ht : Nat.blt t 512 = true := by
        simp only [baseX] at hb
        split at hb
        · rename_i h; exact h
        · cases hb
      obtain ⟨g⟩ := xa
      have ih := resX_sim (T := T) R (h := h) rs (fun l => f (g [] fr :: l))
      generalize resX T env rs = rr at e ih
      obtain ⟨r⟩ := rr
      obtain ⟨l, h1, h2⟩ := ih e
      simp only [opv, ht] at hv
      refine ⟨_, ?_, h2⟩
      simp only [F.resultsA, ht, h1]
      rw [← hv]
    · cases e
  | .cell c t :: rs, f, e => by
    simp only [resX] at e
    split at e
    · rename_i xa hb
      have hv := baseX_run R hb []
      have ht : Nat.blt c 512 = true := by
        simp only [baseX] at hb
        split at hb
        · rename_i h; exact h
        · cases hb
      obtain ⟨g⟩ := xa
      have ih := resX_sim (T := T) R (h := h) rs (fun l => ptrE (g [] fr) fun b o => match F.loadV T t h b o with
        | some v => f (v :: l)
        | none => none)
      generalize resX T env rs = rr at e ih
      obtain ⟨r⟩ := rr
      obtain ⟨l, h1, h2⟩ := ih e
      obtain ⟨b, o, h3, h4⟩ := ptrE_some h2
      simp only [opv, ht] at hv
      split at h4
      · rename_i v hld
        refine ⟨_, ?_, h4⟩
        have h3' : a.env.get c = .ptr b o := by rw [← hv]; exact h3
        simp only [F.resultsA, ht, h1, h3', hld]
      · cases h4
    · cases e

theorem giveA_sim {T : F.Tb} {fr : Fr} {a : AF} (R : FrR env fr a) {h : AH} {fn : Func} {k1 k2 : KV ω} (hk : ∀ v h', k1 v h' = some out → k2 v h' = some out)
    (e : (resX T env fn.results.toList).run fr h (fun l => k1 (oneOrTup l) h) = some out) : F.giveA T fn a h k2 = some out := by
  obtain ⟨l, h1, h2⟩ := resX_sim R _ _ e
  simp only [F.giveA, h1]
  exact hk _ _ h2

theorem leaveI_sim {flat : Nat → FO ω} {c1 : CallH ω} {lt : CallH ω} (hf : ∀ g args h (k1 k2 : KV ω), (∀ v h', k1 v h' = some out → k2 v h' = some out) → (flat g).run c1 args h k1 = some out → lt g args h k2 = some out) :
    ∀ (ds : List (Nat × List AV)) (h : AH) (k1 k2 : AH → Option ω), (∀ h', k1 h' = some out → k2 h' = some out) → leaveI flat c1 ds h k1 = some out → leaveA lt ds h k2 = some out
  | [], h, k1, k2, hk, e => hk h e
  | (f, args) :: ds, h, k1, k2, hk, e => hf f args h _ _ (fun v h' e' => leaveI_sim hf ds h' k1 k2 hk e') e

theorem retI_end {T : F.Tb} {late : Option (Nat → FO ω)} {rs : List ResultVar} : EndOk (retI T env late rs) := by
  intro cx cx' l l' fr h hc hk
  unfold retI
  cases resX T env rs
  simp only [hc, hk]

theorem fr0_rel : FrR env fr0 ⟨Env.empty, []⟩ := ⟨rfl, fun t s _ _ => by
  rw [Env.get_empty]
  cases s <;> first | rfl | skip
  all_goals simp only [Fr.get, fr0, N8.get_all]⟩

theorem initA_sim : ∀ (p i : Nat) (args : List AV) (fr : Fr) (e : Env) (f : Fr → Option ω), i + p ≤ 512 → FrR env fr ⟨e, []⟩ → (initA env p i).run args fr f = some out → ∃ fr', f fr' = some out ∧ FrR env fr' ⟨Env.ofArgs args i e, []⟩ ∧ args.length ≤ p
  | 0, i, args, fr, e, f, hp, R, h => by
    cases args with
    | nil => exact ⟨fr, h, R, Nat.le_refl _⟩
    | cons v vs => cases h
  | p + 1, i, args, fr, e, f, hp, R, h => by
    cases args with
    | nil =>
      refine ⟨fr, ?_, R, Nat.zero_le _⟩
      simp only [initA] at h
      generalize initA env p (i + 1) = ii at h
      obtain ⟨nx⟩ := ii
      split at h
      · rename_i s hs
        cases hsx : setX s
        simp only [hsx] at h
        exact h
      · exact h
    | cons v vs =>
      have hi : i < 512 := by omega
      have ih := initA_sim p (i + 1) vs
      simp only [initA] at h
      generalize initA env p (i + 1) = ii at h ih
      obtain ⟨nx⟩ := ii
      split at h
      · rename_i s hs
        have h' : nx vs ((setX s).run v fr) f = some out := by
          revert h
          cases setX s
          exact id
        rw [setX_eq] at h'
        obtain ⟨fr', k1, k2, k3⟩ := ih (fr.set v s) (e.set i v) f (by omega) (R.frame hi hs v) h'
        exact ⟨fr', k1, k2, by simp only [List.length_cons]; omega⟩
      · rename_i hs
        obtain ⟨fr', k1, k2, k3⟩ := ih fr (e.set i v) f (by omega) (R.keep hi hs v) h
        exact ⟨fr', k1, k2, by simp only [List.length_cons]; omega⟩

/-- A function's body. -/
theorem cfun_sim {fn : Func} {late : Option (Nat → FO ω)} {pq : Nat → Bool} {c1 : CallH ω} (hc : CalmSim pq c1 call out ∧ CallSim c1 call out) (hpl : ∀ c, fn.body = some c → plansC (F.tb P) c = true) {args : List AV} {h : AH} {k1 : KV ω} {K : AF → AH → Option ω}
    (hret : ∀ env fr' a' h' (cx : Cx ω), Cx.call cx = c1 → Cx.k cx = k1 → FrR env fr' a' → (retI (F.tb P) env late fn.results.toList).run cx [] fr' h' = some out → K a' h' = some out)
    (e : (cfun (F.tb P) pq rounds late fn).run c1 args h k1 = some out) : F.bodyA (F.tb P) call rounds fn args h K = some out := by
  unfold cfun at e
  split at e
  · rename_i c hb h1 h2
    have hn := Nat.le_of_ble_eq_true h1
    have hp := Nat.le_of_ble_eq_true h2
    unfold cfunOf at e
    generalize hii : initA (ω := ω) (envOf fn c) (fn.params.size + fn.nfree) 0 = ii at e
    generalize hcc : ccode (ω := ω) (F.tb P) pq rounds fn.ntmps (envOf fn c) (retI (F.tb P) (envOf fn c) late fn.results.toList) c [] (retI (F.tb P) (envOf fn c) late fn.results.toList) = cc at e
    obtain ⟨ini⟩ := ii
    obtain ⟨body⟩ := cc
    have e' : (initA (ω := ω) (envOf fn c) (fn.params.size + fn.nfree) 0).run args fr0 (fun fr => (ccode (ω := ω) (F.tb P) pq rounds fn.ntmps (envOf fn c) (retI (F.tb P) (envOf fn c) late fn.results.toList) c [] (retI (F.tb P) (envOf fn c) late fn.results.toList)).run (.top c1 k1) [] fr h) = some out := by
      rw [hii, hcc]; exact e
    obtain ⟨fr', k3, k4, k5⟩ := initA_sim _ 0 args fr0 Env.empty _ (by omega) fr0_rel e'
    have hl : Nat.ble args.length fn.ntmps = true := Nat.ble_eq_true_of_le (by omega)
    simp only [F.bodyA, hb, h1, hl]
    refine ccode_sim hn retI_end c [] _ (.top c1 k1) [] fr' h _ _ (hpl c hb) hc k4 (fun l' fr2 a2 h2 R2 e2 => ?_) (fun id x hf => by cases hf) (fun fr2 a2 h2 R2 e2 => ?_) k3
    · refine hret _ fr2 a2 h2 (.top c1 k1) rfl rfl R2 ?_
      rw [retI_end (.top c1 k1) (.top c1 k1) l' [] fr2 h2 rfl rfl]; exact e2
    · exact hret _ fr2 a2 h2 (.top c1 k1) rfl rfl R2 e2
  · cases e

/-- The plans are in order. -/
def PlansOk (P : Program) (cf : Cfg) : Prop := ∀ f, cf.may f = true → plansF (F.tb P) f = true

theorem PlansOk.fn {cf : Cfg} (h : PlansOk P cf) {f : Nat} {fn : Func} (hm : cf.may f = true) (hf : (F.tb P).func f = some fn) : ∀ c, fn.body = some c → plansC (F.tb P) c = true := by
  intro c hb
  have := h f hm
  unfold plansF at this
  rw [hf] at this
  simpa only [hb] using this

theorem flat_sim {cf : Cfg} (hpl : PlansOk P cf) {c1 : CallH ω} (hc : CalmSim cf.pq c1 call out ∧ CallSim c1 call out) (g : Nat) (args : List AV) (h : AH) (k1 k2 : KV ω) (hk : ∀ v h', k1 v h' = some out → k2 v h' = some out)
    (e : (flatF (F.tb P) cf rounds g).run c1 args h k1 = some out) : F.flatA (F.tb P) call rounds g args h k2 = some out := by
  unfold flatF at e
  unfold F.flatA
  split at e
  · rename_i fn hm hf
    rw [hf]
    refine cfun_sim hc (hpl.fn hm hf) (fun env fr' a' h' cx hcx hkx R' e' => ?_) e
    unfold retI at e'
    have hg := giveA_sim (T := F.tb P) (h := h') (fn := fn) R' hk
    generalize resX (ω := ω) (F.tb P) env fn.results.toList = rr at e' hg
    obtain ⟨r⟩ := rr
    simp only [hkx] at e'
    rw [R'.ds]
    split at e'
    · rename_i hds
      rw [hds]
      exact hg e'
    · cases e'
  · cases e

theorem body_sim {cf : Cfg} (hpl : PlansOk P cf) {c1 : CallH ω} (hc : CalmSim cf.pq c1 call out ∧ CallSim c1 call out) {fn : Func} (hfn : ∀ c, fn.body = some c → plansC (F.tb P) c = true) (args : List AV) (h : AH) (k1 k2 : KV ω) (hk : ∀ v h', k1 v h' = some out → k2 v h' = some out)
    (e : (cfun (F.tb P) cf.pq rounds (some (flatF (F.tb P) cf rounds)) fn).run c1 args h k1 = some out) : F.evBody (F.tb P) call rounds fn args h k2 = some out := by
  unfold F.evBody
  refine cfun_sim hc hfn (fun env fr' a' h' cx hcx hkx R' e' => ?_) e
  unfold retI at e'
  have hg := fun h' => giveA_sim (T := F.tb P) (h := h') (fn := fn) R' hk
  generalize resX (ω := ω) (F.tb P) env fn.results.toList = rr at e' hg
  obtain ⟨r⟩ := rr
  simp only [hkx, hcx] at e'
  rw [R'.ds]
  split at e'
  · rename_i hds
    rw [hds]
    exact hg h' e'
  · exact leaveI_sim (fun g args h k1 k2 hk e => flat_sim hpl hc g args h k1 k2 hk e) _ h' _ _ (fun h2 e2 => hg h2 e2) e'

/-- Those that are said to turn nothing turn nothing. -/
def CalmOk (K : Known) (pq : Nat → Bool) : Prop := ∀ f args h v h', pq f = true → K f args h = some (v, h') → h' = h

theorem calm_sim {K : Known} {cf : Cfg} (hq : CalmOk K cf.pq) : ∀ d, CalmSim cf.pq (evFun (ω := ω) (F.tb P) K cf rounds d) (F.evFun (F.tb P) K rounds d) out
  | 0 => by intro f hf args h k e; cases e
  | d + 1 => by
    intro f hf args h k e
    have e' : (lookF (F.tb P) K cf rounds f).run (evFun (F.tb P) K cf rounds d) args h k = some out := e
    unfold lookF at e'
    rw [hf] at e'
    obtain ⟨v, h', h1, h2⟩ := optE_some e'
    have := hq f args h v h' hf h1
    subst this
    refine ⟨v, h2, fun k2 hk2 => ?_⟩
    simp only [F.evFun, h1]
    exact hk2

/-- What is known is said to be known. -/
def NamedOk (K : Known) (cf : Cfg) : Prop := ∀ f args h p, K f args h = some p → cf.pq f = true ∨ cf.kn f = true

theorem code_sim {K : Known} {cf : Cfg} (hpl : PlansOk P cf) {d : Nat} (ihq : CalmSim cf.pq (evFun (ω := ω) (F.tb P) K cf rounds d) (F.evFun (F.tb P) K rounds d) out) (ih : CallSim (evFun (ω := ω) (F.tb P) K cf rounds d) (F.evFun (F.tb P) K rounds d) out)
    {g : Nat} {args : List AV} {h : AH} {k1 k2 : KV ω} (hk : ∀ v h', k1 v h' = some out → k2 v h' = some out) (e : (codeF (F.tb P) cf rounds g).run (evFun (F.tb P) K cf rounds d) args h k1 = some out) :
    (match (F.tb P).func g with | some fn => F.evBody (F.tb P) (F.evFun (F.tb P) K rounds d) rounds fn args h k2 | none => none) = some out := by
  unfold codeF at e
  split at e
  · rename_i fn hm hfn
    rw [hfn]
    exact body_sim hpl ⟨ihq, ih⟩ (hpl.fn hm hfn) args h k1 k2 hk e
  · cases e

theorem evFun_sim {K : Known} {cf : Cfg} (hK : NamedOk K cf) (hq : CalmOk K cf.pq) (hpl : PlansOk P cf) : ∀ d, CallSim (evFun (ω := ω) (F.tb P) K cf rounds d) (F.evFun (F.tb P) K rounds d) out
  | 0 => by intro g args h k1 k2 hk e; cases e
  | d + 1 => by
    intro g args h k1 k2 hk e
    have ih : CallSim (evFun (ω := ω) (F.tb P) K cf rounds d) (F.evFun (F.tb P) K rounds d) out := evFun_sim hK hq hpl d
    have ihq : CalmSim cf.pq (evFun (ω := ω) (F.tb P) K cf rounds d) (F.evFun (F.tb P) K rounds d) out := calm_sim hq d
    have e' : (lookF (F.tb P) K cf rounds g).run (evFun (F.tb P) K cf rounds d) args h k1 = some out := e
    by_cases hp : cf.pq g = true
    · obtain ⟨v, h1, h2⟩ := calm_sim (P := P) (out := out) (rounds := rounds) hq (d + 1) g hp args h k1 e
      exact h2 k2 (hk _ _ h1)
    · have hp' : cf.pq g = false := by simpa using hp
      unfold lookF at e'
      rw [hp'] at e'
      simp only [F.evFun]
      split at e'
      · rename_i hh; cases hh
      · simp only at e'
        cases hkn : K g args h with
        | some p =>
          rw [hkn] at e'
          obtain ⟨v, h'⟩ := p
          exact hk _ _ e'
        | none =>
          rw [hkn] at e'
          exact code_sim hpl ihq ih hk e'
      · cases hkn : K g args h with
        | some p =>
          rcases hK g args h p hkn with h1 | h1
          · rw [hp'] at h1; cases h1
          · rename_i h2; rw [h2] at h1; cases h1
        | none => exact code_sim hpl ihq ih hk e'

/-- What the machine gives is what the evaluator gives. -/
theorem evFun_ok {T : F.Tb} (hT : T = F.tb P) {K : Known} {cf : Cfg} (hK : NamedOk K cf) (hq : CalmOk K cf.pq) (hpl : PlansOk P cf) {d f : Nat} {args : List AV} {h : AH} {k : KV ω} (e : evFun T K cf rounds d f args h k = some out) : Ab.evFun P K rounds d f args h k = some out := by
  subst hT
  have := evFun_sim (P := P) (out := out) (rounds := rounds) hK hq hpl d f args h k k (fun _ _ h => h) e
  rwa [fast_evFun] at this

/-- Plans looked at below a number are all, where the mask names none above. -/
theorem plansOk_of {T : F.Tb} (hT : T = F.tb P) {cf : Cfg} {n : Nat} (hm : Nat.shiftRight cf.mask n = 0) (h : plansUpTo T cf n = true) : PlansOk P cf := by
  subst hT
  intro f hf
  have hlt : f < n := by
    rcases Nat.lt_or_ge f n with h1 | h1
    · exact h1
    · exfalso
      unfold Cfg.may at hf
      have h2 := Nat.eq_of_beq_eq_true hf
      have h3 : Nat.shiftRight cf.mask f = 0 := by
        have e : f = n + (f - n) := by omega
        show cf.mask >>> f = 0
        rw [e, Nat.shiftRight_add]
        show (Nat.shiftRight cf.mask n) >>> (f - n) = 0
        rw [hm, Nat.zero_shiftRight]
      rw [h3] at h2
      revert h2
      show (0 &&& 1 = 1) → False
      rw [Nat.zero_and]
      intro h; cases h
  clear hm
  induction n with
  | zero => omega
  | succ n ih =>
    simp only [plansUpTo] at h
    split at h
    · rename_i hmn
      split at h
      · rename_i hpn
        rcases Nat.lt_or_ge f n with h1 | h1
        · exact ih h h1
        · have : f = n := by omega
          subst this
          exact hpn
      · cases h
    · rename_i hmn
      rcases Nat.lt_or_ge f n with h1 | h1
      · exact ih h h1
      · have : f = n := by omega
        subst this
        rw [hf] at hmn; cases hmn

end Go.Ab.E

/- What a closed run tells of a call in any world: calls that read a few blocks at most, and give data, or a new block of data. -/
namespace Go.Ab
open Go.RowKit

variable {P : Program}

/-! ### data without places -/

/-- Data in which no place stands. -/
def flat : Nat → AV → Bool
  | 0, _ => false
  | n + 1, v => match v with
    | .top | .bool _ | .int _ _ | .str _ | .nilptr | .nilslice | .nilmap | .nilfn | .nilif => true
    | .iface _ x => flat n x
    | .agg l => l.all (flat n)
    | .tup l => l.all (flat n)
    | _ => false

theorem flat_VR {ρ ρ' : Pl} : ∀ (n : Nat) {v : AV} {x : Value}, flat n v = true → VR ρ v x → VR ρ' v x
  | 0, v, x, h, _ => by cases h
  | n + 1, v, x, h, r => by
    cases r <;> first | (simp [flat] at h; done) | skip
    case top => exact .top _
    case bool => exact .bool _
    case int => exact .int _ _
    case str h' => exact .str h'
    case nilptr => exact .nilptr
    case nilslice => exact .nilslice
    case nilmap => exact .nilmap
    case nilfn => exact .nilfn
    case nilif => exact .nilif
    case iface h' => exact .iface (flat_VR n (by simpa [flat] using h) h')
    case agg hl h' =>
      simp only [flat] at h
      exact .agg hl fun i a v ha hv => flat_VR n (List.all_eq_true.1 h a (List.mem_of_getElem? ha)) (h' i a v ha hv)
    case tup hl h' =>
      simp only [flat] at h
      exact .tup hl fun i a v ha hv => flat_VR n (List.all_eq_true.1 h a (List.mem_of_getElem? ha)) (h' i a v ha hv)

def flats (l : List AV) : Bool := l.all (flat 8)

theorem flats_VRs {ρ ρ' : Pl} {l : List AV} {vs : List Value} (h : flats l = true) (r : VRs ρ l vs) : VRs ρ' l vs :=
  ⟨r.1, fun i a v ha hv => flat_VR 8 (List.all_eq_true.1 h a (List.mem_of_getElem? ha)) (r.2 i a v ha hv)⟩

/-! ### the package-level variables -/

/-- The package-level variables' blocks, which nothing turns. -/
structure GW (G : AH) (n0 : Nat) (w : World) (ρ : Pl) : Prop where
  own : ∀ i b, G.get i = some b → b.owned = false
  blocks : ∀ i b, G.get i = some b → ∃ pl, ρ i = some pl ∧ BR ρ w pl b
  fresh : ∀ i, G.next.toNat ≤ i.toNat → ρ i = none
  lt : ∀ i pl, ρ i = some pl → pl.blk < n0
  glob : GR ρ
  base : n0 ≤ w.heap.size

theorem GW.mono {G : AH} {n0 n1 : Nat} {w w' : World} {ρ : Pl} (g : GW G n0 w ρ) (hb : ∀ k, k < n0 → w'.heap[k]? = w.heap[k]?) (h1 : n0 ≤ n1) (h2 : n1 ≤ w'.heap.size) : GW G n1 w' ρ :=
  ⟨g.own, fun i b hi => let ⟨pl, k1, k2⟩ := g.blocks i b hi; ⟨pl, k1, k2.keep (hb _ (g.lt i pl k1))⟩, g.fresh, fun i pl hp => Nat.lt_of_lt_of_le (g.lt i pl hp) h1, g.glob, h2⟩

theorem GW.hr {G : AH} {n0 : Nat} {w : World} {ρ : Pl} (g : GW G n0 w ρ) : HR n0 w ρ G w :=
  ⟨fun i b hi => let ⟨pl, k1, k2⟩ := g.blocks i b hi; ⟨pl, k1, k2, (fun ho => by rw [g.own i b hi] at ho; cases ho)⟩,
    (fun i j bi bj pi pj hi _ _ _ _ ho => by rw [g.own i bi hi] at ho; cases ho), g.fresh, fun i pl hp => Nat.lt_of_lt_of_le (g.lt i pl hp) g.base, .refl n0 w, g.base⟩

/-- What is known is so, in whatever world the package-level variables stand. -/
def KS (P : Program) (G : AH) (I : Known) : Prop := ∀ n0 w0 ρ0, GW G n0 w0 ρ0 → KnownSound P n0 w0 I

/-- What a known call comes to. -/
def Comes (P : Program) (n0 : Nat) (w0 : World) (f : Nat) (args : List AV) (h : AH) (v : AV) (h' : AH) : Prop :=
  ∀ (ρ : Pl) (w : World) (vs : Array Value), HR n0 w0 ρ h w → GR ρ → VRs ρ args vs.toList →
    Outcome P f vs w fun e w' => ∃ x ρ', e = .returned x ∧ VR ρ' v x ∧ Goes ρ h w ρ' h' w' ∧ HR n0 w0 ρ' h' w'

theorem KS.of {G : AH} {I : Known} (h : ∀ n0 w0 ρ0, GW G n0 w0 ρ0 → ∀ f args h v h', I f args h = some (v, h') → Comes P n0 w0 f args h v h') : KS P G I :=
  fun n0 w0 ρ0 g f args hh v h' e => h n0 w0 ρ0 g f args hh v h' e

theorem KS.none {G : AH} : KS P G (fun _ _ _ => none) := fun n0 w0 ρ0 g f args h v h' e => by cases e

/-- A world behind the first one. -/
theorem GW.later {G : AH} {n0 : Nat} {w0 w : World} {ρ0 ρ : Pl} {h : AH} (g : GW G n0 w0 ρ0) (H : HR n0 w0 ρ h w) : GW G w.heap.size w ρ0 :=
  g.mono (fun k hk => H.below.block k hk) H.base (Nat.le_refl _)

/-- What a run in small tells: from the world as it stands. -/
theorem local_run {ω : Type} {G : AH} {I : Known} (hI : KS P G I) (hmix : P.follows .mixedOrders = true) (hP : PlainFuncs P) {rounds d f : Nat} {args : List AV} {hL : AH} {k : KV ω} {out : ω}
    (run : evFun P I rounds d f args hL k = some out) {n0 : Nat} {w0 w : World} {ρ0 ρ : Pl} {h : AH} (g : GW G n0 w0 ρ0) (H : HR n0 w0 ρ h w) {ρL : Pl} (HL : HR w.heap.size w ρL hL w) (GL : GR ρL) {vs : Array Value} (r : VRs ρL args vs.toList) :
    Outcome P f vs w fun e w' => ∃ v x ρ' hF, e = .returned x ∧ VR ρ' v x ∧ HR w.heap.size w ρ' hF w' ∧ k v hF = some out := by
  have hk : KnownSound P w.heap.size w I := hI _ _ _ (g.later H)
  refine (evFun_sound (ω := ω) hk hmix hP d f args hL _ _ run ρL w vs HL GL r).mono fun e w' hr => ?_
  obtain ⟨v', x, ρ', h', h1, h2, h3, h4, h5⟩ := hr
  exact ⟨v', x, ρ', h', h1, h2, h4, h5⟩

/-- Above all that was there, nothing of it has turned: the caller's memory stands. -/
theorem HR.past {n0 : Nat} {w0 w w' : World} {ρ : Pl} {h : AH} (H : HR n0 w0 ρ h w) (b : Below w.heap.size w w') : HR n0 w0 ρ h w' ∧ Goes ρ h w ρ h w' := by
  refine ⟨⟨fun i bi hi => ?_, H.inj, H.fresh, fun i pl hp => Nat.lt_of_lt_of_le (H.lt i pl hp) b.size, H.below.trans (b.mono H.base), Nat.le_trans H.base b.size⟩,
    ⟨.refl ρ, b.size, Nat.le_refl _, fun cb hcb _ => b.block cb hcb, fun i bi hi => .inr ⟨bi, hi, id, fun _ h => h⟩, fun i pl hp => .inl hp⟩⟩
  obtain ⟨pl, h1, h2, h3⟩ := H.blocks i bi hi
  exact ⟨pl, h1, h2.keep (b.block _ h2.lt), h3⟩

/-- Data come back. -/
theorem back_value {n0 : Nat} {w0 w w' : World} {ρ ρ' : Pl} {h hF : AH} {v : AV} {x : Value} (hv : flat 8 v = true) (H : HR n0 w0 ρ h w) (r : VR ρ' v x) (HF : HR w.heap.size w ρ' hF w') :
    ∃ ρ2, VR ρ2 v x ∧ Goes ρ h w ρ2 h w' ∧ HR n0 w0 ρ2 h w' :=
  let ⟨k1, k2⟩ := H.past HF.below
  ⟨ρ, flat_VR 8 hv r, k2, k1⟩

/-- A new block of data comes back: it gets the caller's next number. -/
theorem back_block {n0 : Nat} {w0 w w' : World} {ρ ρ' : Pl} {h hF h' : AH} {cells : List AV} {own : Bool} {i j : Id} (hc : flats cells = true) (H : HR n0 w0 ρ h w) (HF : HR w.heap.size w ρ' hF w') (hj : hF.get j = some (.cells true cells))
    (hn : h.new (.cells own cells) = some (i, h')) :
    ∃ pl, ρ' j = some pl ∧ HR n0 w0 (ρ.with i pl) h' w' ∧ Goes ρ h w (ρ.with i pl) h' w' ∧ ρ.with i pl i = some pl := by
  obtain ⟨k1, k2⟩ := H.past HF.below
  obtain ⟨pl, h1, h2, h3⟩ := HF.blocks j _ hj
  have hbig : w.heap.size ≤ pl.blk := h3 rfl
  obtain ⟨rfl, hnx, hg⟩ := AH.new_spec hn
  have hfree : ρ h.next = none := H.fresh _ (Nat.le_refl _)
  have hext : Ext ρ (ρ.with h.next pl) := Pl.with_ext pl hfree
  have hB : BR (ρ.with h.next pl) w' pl (.cells own cells) := by
    obtain ⟨cs, el, fr, b1, b2, b3, b4, b5⟩ := h2
    exact ⟨cs, el, fr, b1, b2, b3, fun k a ha => let ⟨y, hy, hr⟩ := b4 k a ha; ⟨y, hy, flat_VR 8 (List.all_eq_true.1 hc a (List.mem_of_getElem? ha)) hr⟩, fun _ => b5 rfl⟩
  have hg' : ∀ k bk, h'.get k = some bk → (k = h.next ∧ bk = .cells own cells) ∨ (k ≠ h.next ∧ h.get k = some bk) := fun k bk hk => by
    rw [hg] at hk
    split at hk
    · rename_i e; cases hk; exact .inl ⟨e, rfl⟩
    · rename_i e; exact .inr ⟨e, hk⟩
  have hfar : ∀ k pk, ρ k = some pk → pk.blk < w.heap.size := fun k pk hk => H.lt k pk hk
  refine ⟨pl, h1, ?_, ?_, Pl.with_same ρ _ pl⟩
  · refine ⟨fun k bk hk => ?_, fun a b ba bb pa pb ha hb hpa hpb hab hoa => ?_, fun k hk => ?_, fun k pk hk => ?_, k1.below, k1.base⟩
    · rcases hg' k bk hk with ⟨rfl, rfl⟩ | ⟨hne, hk'⟩
      · exact ⟨pl, Pl.with_same ρ _ pl, hB, fun _ => Nat.le_trans H.base hbig⟩
      · obtain ⟨pk, c1, c2, c3⟩ := k1.blocks k bk hk'
        exact ⟨pk, hext _ _ c1, c2.mono hext, c3⟩
    · rcases hg' a ba ha with ⟨rfl, rfl⟩ | ⟨hna, ha'⟩
      · rw [Pl.with_same] at hpa; cases hpa
        rcases Pl.with_inv b pb hpb with hb2 | hb2
        · exact absurd hb2.symm hab
        · have := hfar b pb hb2; omega
      · have hpa' : ρ a = some pa := by
          rcases Pl.with_inv a pa hpa with h | h
          · exact absurd h hna
          · exact h
        rcases hg' b bb hb with ⟨rfl, rfl⟩ | ⟨hnb, hb'⟩
        · rw [Pl.with_same] at hpb; cases hpb
          have := hfar a pa hpa'; omega
        · have hpb' : ρ b = some pb := by
            rcases Pl.with_inv b pb hpb with h | h
            · exact absurd h hnb
            · exact h
          exact H.inj a b ba bb pa pb ha' hb' hpa' hpb' hab hoa
    · cases hk' : ρ.with h.next pl k with
      | none => rfl
      | some pk =>
        rcases Pl.with_inv k pk hk' with rfl | h2'
        · omega
        · have := H.fresh k (by omega)
          rw [this] at h2'; cases h2'
    · rcases Pl.with_inv k pk hk with rfl | h2'
      · rw [Pl.with_same] at hk; cases hk
        exact h2.lt
      · exact k1.lt k pk h2'
  · refine ⟨hext, HF.below.size, by omega, fun cb hcb _ => HF.below.block cb hcb, fun k bk hk => ?_, fun k pk hk => ?_⟩
    · rcases hg' k bk hk with ⟨rfl, rfl⟩ | ⟨hne, hk'⟩
      · refine .inl ⟨Nat.le_refl _, fun pk hpk => ?_⟩
        rw [Pl.with_same] at hpk; cases hpk
        exact .inl hbig
      · refine .inr ⟨bk, hk', id, fun pk hpk => ?_⟩
        rcases Pl.with_inv k pk hpk with h | h
        · exact absurd h hne
        · exact h
    · rcases Pl.with_inv k pk hk with rfl | h
      · exact .inr (Nat.le_refl _)
      · exact .inl h

/-- A call of data that gives data, by a closed run. -/
theorem comes_value {G : AH} {I : Known} (hI : KS P G I) (hmix : P.follows .mixedOrders = true) (hP : PlainFuncs P) {rounds d f : Nat} {args : List AV} {v : AV} (ha : flats args = true) (hv : flat 8 v = true)
    (run : evFun P I rounds d f args G (fun v _ => some v) = some v) {n0 : Nat} {w0 : World} {ρ0 : Pl} (g : GW G n0 w0 ρ0) (h : AH) : Comes P n0 w0 f args h v h := by
  intro ρ w vs H _ r
  have gl := g.later H
  refine (local_run hI hmix hP run g H gl.hr gl.glob (flats_VRs ha r)).mono fun e w' hr => ?_
  obtain ⟨v', x, ρ', hF, rfl, h2, h4, h5⟩ := hr
  cases h5
  obtain ⟨ρ2, k1, k2, k3⟩ := back_value hv H h2 h4
  exact ⟨x, ρ2, rfl, k1, k2, k3⟩

/-! ### calls that read blocks -/

/-- A slice's cells as a block of its own, under the next number, not to be written. -/
theorem view {n1 : Nat} {w : World} {ρL ρ : Pl} {hL hL' : AH} {iL : Id} (HL : HR n1 w ρL hL w) (hown : ∀ i b, hL.get i = some b → b.owned = false) {n0 : Nat} {w0 : World} {h : AH} (H : HR n0 w0 ρ h w) {b : Id} {o len : Nat} {cap : Cap} {own : Bool} {vs cells : List AV} (hb : h.get b = some (.cells own vs)) (hlen : o + len ≤ vs.length) (hpos : 0 < len)
    (hcells : ∀ (k : Nat) (a : AV), cells[k]? = some a → a = .top ∨ (vs[o + k]? = some a ∧ flat 8 a = true)) (hcl : cells.length ≤ len) {x : Value} (r : VR ρ (.slice b o len cap) x) (hn : hL.new (.cells false cells) = some (iL, hL')) :
    ∃ pl c, HR n1 w (ρL.with iL pl) hL' w ∧ VR (ρL.with iL pl) (.slice iL 0 len (.is c)) x ∧ Ext ρL (ρL.with iL pl) ∧ ∀ i b, hL'.get i = some b → b.owned = false := by
  obtain ⟨rfl, hnx, hg⟩ := AH.new_spec hn
  have hfree : ρL hL.next = none := HL.fresh _ (Nat.le_refl _)
  -- where the slice stands
  have key : ∃ plb c, ρ b = some plb ∧ x = .slice (some ⟨plb.blk, plb.sh + o, none⟩) len c := by
    cases r with
    | slice hp => exact ⟨_, _, hp, rfl⟩
    | sliceO hp _ _ => exact ⟨_, _, hp, rfl⟩
    | sliceE => omega
    | sliceZ => omega
  obtain ⟨plb, c, hp, rfl⟩ := key
  obtain ⟨⟨cs, el, fr, b1, b2, b3, b4, b5⟩, _⟩ := H.at hb hp
  let pl : Place := ⟨plb.blk, plb.sh + o, plb.ce - o⟩
  have hext : Ext ρL (ρL.with hL.next pl) := Pl.with_ext pl hfree
  have hB : BR (ρL.with hL.next pl) w pl (.cells false cells) := by
    refine ⟨cs, el, fr, b1, by show plb.sh + o + (plb.ce - o) ≤ cs.size; omega, by show cells.length ≤ plb.ce - o; omega, fun k a ha => ?_, fun h => by cases h⟩
    have hk : k < cells.length := (List.getElem?_eq_some_iff.1 ha).1
    rcases hcells k a ha with rfl | ⟨h1, h2⟩
    · have h3 : o + k < vs.length := by omega
      obtain ⟨y, hy, _⟩ := b4 (o + k) vs[o + k] (by simp [h3])
      exact ⟨y, by rw [show pl.sh + k = plb.sh + (o + k) by show plb.sh + o + k = _; omega]; exact hy, .top y⟩
    · obtain ⟨y, hy, hr⟩ := b4 (o + k) a h1
      exact ⟨y, by rw [show pl.sh + k = plb.sh + (o + k) by show plb.sh + o + k = _; omega]; exact hy, flat_VR 8 h2 hr⟩
  have hg' : ∀ k bk, hL'.get k = some bk → (k = hL.next ∧ bk = .cells false cells) ∨ (k ≠ hL.next ∧ hL.get k = some bk) := fun k bk hk => by
    rw [hg] at hk
    split at hk
    · rename_i e; cases hk; exact .inl ⟨e, rfl⟩
    · rename_i e; exact .inr ⟨e, hk⟩
  refine ⟨pl, c, ⟨fun k bk hk => ?_, fun a b ba bb pa pb ha hb' hpa hpb hab hoa => ?_, fun k hk => ?_, fun k pk hk => ?_, HL.below, HL.base⟩, ?_, hext, fun k bk hk => ?_⟩
  · rcases hg' k bk hk with ⟨rfl, rfl⟩ | ⟨hne, hk'⟩
    · exact ⟨pl, Pl.with_same ρL _ pl, hB, fun h => by cases h⟩
    · obtain ⟨pk, c1, c2, c3⟩ := HL.blocks k bk hk'
      exact ⟨pk, hext _ _ c1, c2.mono hext, c3⟩
  · rcases hg' a ba ha with ⟨rfl, rfl⟩ | ⟨_, ha'⟩
    · cases hoa
    · rw [hown a ba ha'] at hoa; cases hoa
  · cases hk' : ρL.with hL.next pl k with
    | none => rfl
    | some pk =>
      rcases Pl.with_inv k pk hk' with rfl | h2'
      · omega
      · have := HL.fresh k (by omega)
        rw [this] at h2'; cases h2'
  · rcases Pl.with_inv k pk hk with rfl | h2'
    · rw [Pl.with_same] at hk; cases hk
      exact H.lt b plb hp
    · exact HL.lt k pk h2'
  · have := VR.slice (ρ := ρL.with hL.next pl) (b := hL.next) (o := 0) (len := len) (c := c) (Pl.with_same ρL _ pl)
    simpa using this
  · rcases hg' k bk hk with ⟨rfl, rfl⟩ | ⟨_, hk'⟩
    · rfl
    · exact hown k bk hk'

end Go.Ab

namespace Go.Ab

/-! ### the quick tables give what the program's own give -/

theorem dropL_eq {α : Type} : ∀ (n : Nat) (l : List α), dropL n l = l.drop n
  | 0, _ => rfl
  | _ + 1, [] => by simp [dropL]
  | n + 1, _ :: l => by simp only [dropL, List.drop_succ_cons]; exact dropL_eq n l

theorem headO_eq {α : Type} (l : List α) : headO l = l[0]? := by cases l <;> rfl

theorem row8_get {α β : Type} (n : Nat) (f : List α → β) (l : List α) {d : Nat} (hd : d < 8) : N8.get (.dig d) (row8 n f l) = f (l.drop (d * n)) := by
  unfold row8
  simp only [dropL_eq, List.drop_drop]
  rcases d with _ | _ | _ | _ | _ | _ | _ | _ | d
  · simp [D8.dig, N8.get]
  · simp [D8.dig, N8.get]
  · simp only [D8.dig, N8.get]; congr 2; omega
  · simp only [D8.dig, N8.get]; congr 2; omega
  · simp only [D8.dig, N8.get]; congr 2; omega
  · simp only [D8.dig, N8.get]; congr 2; omega
  · simp only [D8.dig, N8.get]; congr 2; omega
  · simp only [D8.dig, N8.get]; congr 2; omega
  · omega

theorem look_tabOf {α : Type} (l : List α) (hl : l.length ≤ 4096) (i : Nat) : (tabOf l).look i = l[i]? := by
  unfold Tab.look
  split
  · rename_i h
    have h' := Nat.blt_eq.mp h
    unfold tabOf
    rw [row8_get 512 _ l (by omega), row8_get 64 _ _ (by omega), row8_get 8 _ _ (by omega), row8_get 1 _ _ (by omega), headO_eq]
    simp only [List.drop_drop, List.getElem?_drop]
    congr 1
    omega
  · rename_i h
    have h' : ¬ i < 4096 := by rw [← Nat.blt_eq, h]; simp
    rw [List.getElem?_eq_none (by omega)]

/-- A program's tables made quick. -/
noncomputable def quickOf (P : Program) (types : Tab TypeInfo) (funcs : Tab Func) : F.Tb where
  underlying t := match types.look t with
    | some i => match i.desc with
      | .named _ u => match types.look u with | some j => some j.desc | none => P.underlying t
      | d => some d
    | none => P.underlying t
  info? t := match types.look t with
    | some i => some i
    | none => P.info? t
  noEq t := P.eqGuardType P.depth t
  stoodInHeld t := P.stoodInHeld t
  func f := funcs.look f

theorem quickOf_eq (P : Program) (types : Tab TypeInfo) (funcs : Tab Func) (ht : ∀ i x, types.look i = some x → P.info? i = some x) (hf : ∀ i, funcs.look i = P.funcs[i]?) : quickOf P types funcs = F.tb P := by
  unfold quickOf F.tb
  congr 1
  · funext t
    split
    · rename_i i hi
      have h1 := ht _ _ hi
      obtain ⟨desc, _⟩ := i
      unfold Program.underlying
      rw [h1]
      cases desc <;> try rfl
      rename_i n u
      simp only
      split
      · rename_i j hj
        rw [ht _ _ hj]; rfl
      · rfl
    · rfl
  · funext t
    split
    · rename_i i hi; exact (ht _ _ hi).symm
    · rfl
  · funext f; exact hf f

theorem info_types (P : Program) {types : Array TypeInfo} (h : P.types = types) {i : Nat} {x : TypeInfo} (hx : types[i]? = some x) : P.info? i = some x := by
  have hlt : i < types.size := (Array.getElem?_eq_some_iff.1 hx).1
  unfold Tables.info?
  rw [if_pos (by rw [h]; exact hlt), h]
  exact hx

end Go.Ab

/- SHA-256 over lists of numbers. -/
namespace Go.Ab

def shaConsts : List Nat := [
  0x428a2f98, 0x71374491, 0xb5c0fbcf, 0xe9b5dba5, 0x3956c25b, 0x59f111f1, 0x923f82a4, 0xab1c5ed5,
  0xd807aa98, 0x12835b01, 0x243185be, 0x550c7dc3, 0x72be5d74, 0x80deb1fe, 0x9bdc06a7, 0xc19bf174,
  0xe49b69c1, 0xefbe4786, 0x0fc19dc6, 0x240ca1cc, 0x2de92c6f, 0x4a7484aa, 0x5cb0a9dc, 0x76f988da,
  0x983e5152, 0xa831c66d, 0xb00327c8, 0xbf597fc7, 0xc6e00bf3, 0xd5a79147, 0x06ca6351, 0x14292967,
  0x27b70a85, 0x2e1b2138, 0x4d2c6dfc, 0x53380d13, 0x650a7354, 0x766a0abb, 0x81c2c92e, 0x92722c85,
  0xa2bfe8a1, 0xa81a664b, 0xc24b8b70, 0xc76c51a3, 0xd192e819, 0xd6990624, 0xf40e3585, 0x106aa070,
  0x19a4c116, 0x1e376c08, 0x2748774c, 0x34b0bcb5, 0x391c0cb3, 0x4ed8aa4a, 0x5b9cca4f, 0x682e6ff3,
  0x748f82ee, 0x78a5636f, 0x84c87814, 0x8cc70208, 0x90befffa, 0xa4506ceb, 0xbef9a3f7, 0xc67178f2]

def w32 (n : Nat) : Nat := n % 4294967296
def rotr (x n : Nat) : Nat := Nat.lor (Nat.shiftRight x n) (w32 (Nat.shiftLeft x (32 - n)))
def xor3 (a b c : Nat) : Nat := Nat.xor (Nat.xor a b) c
def sig0 (x : Nat) : Nat := xor3 (rotr x 7) (rotr x 18) (Nat.shiftRight x 3)
def sig1 (x : Nat) : Nat := xor3 (rotr x 17) (rotr x 19) (Nat.shiftRight x 10)
def sum0 (x : Nat) : Nat := xor3 (rotr x 2) (rotr x 13) (rotr x 22)
def sum1 (x : Nat) : Nat := xor3 (rotr x 6) (rotr x 11) (rotr x 25)
def chF (e f g : Nat) : Nat := Nat.xor (Nat.land e f) (Nat.land g (4294967295 - e))
def majF (a b c : Nat) : Nat := Nat.lor (Nat.lor (Nat.land a b) (Nat.land a c)) (Nat.land b c)

def nthN : List Nat → Nat → Nat
  | [], _ => 0
  | x :: _, 0 => x
  | _ :: xs, n + 1 => nthN xs n

/-- The words of a block. -/
def words16 : Nat → List Nat → List Nat
  | 0, _ => []
  | n + 1, a :: b :: c :: d :: r => (((a * 256 + b) * 256 + c) * 256 + d) :: words16 n r
  | _ + 1, _ => []

/-- The schedule, its last word first. -/
def schedule : Nat → List Nat → List Nat
  | 0, ws => ws
  | n + 1, ws => schedule n (w32 (sig1 (nthN ws 1) + nthN ws 6 + sig0 (nthN ws 14) + nthN ws 15) :: ws)

structure St8 where
  a : Nat
  b : Nat
  c : Nat
  d : Nat
  e : Nat
  f : Nat
  g : Nat
  h : Nat

def round8 (s : St8) (k w : Nat) : St8 :=
  match s with
  | ⟨a, b, c, d, e, f, g, h⟩ =>
    let x := w32 (h + sum1 e + chF e f g + k + w)
    let y := w32 (sum0 a + majF a b c)
    ⟨w32 (x + y), a, b, c, w32 (d + x), e, f, g⟩

def rounds8 : List Nat → List Nat → St8 → St8
  | k :: ks, w :: ws, s => rounds8 ks ws (round8 s k w)
  | _, _, s => s

def add8 (s t : St8) : St8 := ⟨w32 (s.a + t.a), w32 (s.b + t.b), w32 (s.c + t.c), w32 (s.d + t.d), w32 (s.e + t.e), w32 (s.f + t.f), w32 (s.g + t.g), w32 (s.h + t.h)⟩

def press8 (s : St8) (block : List Nat) : St8 :=
  add8 s (rounds8 shaConsts (schedule 48 (words16 16 block).reverse).reverse s)

def begin8 : St8 := ⟨0x6a09e667, 0xbb67ae85, 0x3c6ef372, 0xa54ff53a, 0x510e527f, 0x9b05688c, 0x1f83d9ab, 0x5be0cd19⟩

def zerosN : Nat → List Nat
  | 0 => []
  | n + 1 => 0 :: zerosN n

def be8 (n : Nat) : List Nat := [n / 72057594037927936 % 256, n / 281474976710656 % 256, n / 1099511627776 % 256, n / 4294967296 % 256, n / 16777216 % 256, n / 65536 % 256, n / 256 % 256, n % 256]

def padded (b : List Nat) : List Nat := b ++ 0x80 :: zerosN ((119 - b.length % 64) % 64) ++ be8 (8 * b.length)

def blocks8 : Nat → List Nat → St8 → St8
  | 0, _, s => s
  | n + 1, b, s => blocks8 n (b.drop 64) (press8 s (b.take 64))

def be4 (n : Nat) : List Nat := [n / 16777216 % 256, n / 65536 % 256, n / 256 % 256, n % 256]

def shaSum (b : List Nat) : List Nat :=
  let p := padded b
  match blocks8 (p.length / 64) p begin8 with
  | ⟨a, b, c, d, e, f, g, h⟩ => be4 a ++ be4 b ++ be4 c ++ be4 d ++ be4 e ++ be4 f ++ be4 g ++ be4 h

end Go.Ab
