import Derived.Test.YtoobfpnphhcaoaaGreatDoorT08
import Derived.Test.YtoobfpnphhcaoaaGreatDoorT03
set_option linter.unusedVariables false
set_option linter.unusedSimpArgs false
/- Regions whose order is drawn. -/
namespace Go.Ab.E
open Go.Ab

variable {ω : Type} {P : Program} {out : ω}

/-- Two frames that agree at some temporaries. -/
def Agr (A : List Nat) (e1 e2 : Env) : Prop := ∀ t, hasT t A = true → t < 512 → e1.get t = e2.get t

theorem agr_ops {A : List Nat} {e1 e2 : Env} (g : Agr A e1 e2) {xs : List Operand} (h : (operandTmps xs).all (fun t => hasT t A) = true) : ∀ x ∈ xs, opv e1 x = opv e2 x := by
  intro x hx
  refine opv_congr fun t ht hlt => g t ?_ hlt
  subst ht
  have : t ∈ operandTmps xs := by
    clear h
    induction xs with
    | nil => cases hx
    | cons y ys ih =>
      rcases List.mem_cons.1 hx with rfl | hx
      · simp [operandTmps]
      · have := ih hx
        cases y <;> simp [operandTmps, this]
  exact List.all_eq_true.1 h t this

theorem agr_put {A : List Nat} {e1 e2 : Env} (g : Agr A e1 e2) {t : Nat} (ht : t < 512) (v : AV) : Agr (t :: A) (e1.set t v) (e2.set t v) := by
  intro u hu hlt
  rw [Env.get_set _ _ ht hlt, Env.get_set _ _ ht hlt]
  by_cases h : u = t
  · rw [if_pos h, if_pos h]
  · rw [if_neg h, if_neg h]
    refine g u ?_ hlt
    simp only [hasT] at hu
    split at hu
    · rename_i hb; exact absurd (Nat.eq_of_beq_eq_true hb) h
    · exact hu

/-- Readings that agree. -/
inductive SeenA : List Seen → List Seen → Prop where
  | nil : SeenA [] []
  | cons {s1 s2 : Seen} {r1 r2 : List Seen} (h : s1.i = s2.i ∧ s1.op = s2.op ∧ s1.val = s2.val ∧ ∀ x ∈ s1.op.operands, opv s1.env x = opv s2.env x) (hr : SeenA r1 r2) : SeenA (s1 :: r1) (s2 :: r2)

theorem steady_sim {pre : Nat} {h : AH} : ∀ {r1 r2 : List Seen}, SeenA r1 r2 → ∀ {l1 : List Seen}, steady P pre h r1 = some l1 → ∃ l2, steady P pre h r2 = some l2 ∧ SeenA l1 l2
  | _, _, .nil, l1, e => by
    simp only [steady] at e
    cases e
    exact ⟨[], rfl, .nil⟩
  | s1 :: r1, s2 :: r2, .cons hs hr, l1, e => by
    obtain ⟨h1, h2, h3, h4⟩ := hs
    simp only [steady] at e ⊢
    rw [← h1]
    split at e
    · exact steady_sim hr e
    · rw [← h2, ← opA_congr h h4]
      split at e <;> try (cases e; done)
      rename_i v q l ho hl
      split at e <;> try (cases e; done)
      rename_i hsame
      cases e
      obtain ⟨l2, k1, k2⟩ := steady_sim hr hl
      refine ⟨s2 :: l2, ?_, .cons ⟨h1, h2, h3, h4⟩ k2⟩
      rw [ho, k1]
      simp only [← h3, hsame]

theorem operV_sim {c1 c2 : CallH ω} (hc : CallSim c1 c2 out) {o : Op} {e1 e2 : Env} (g : ∀ x ∈ o.operands, opv e1 x = opv e2 x) {h : AH} {k1 k2 : KV ω} (hk : ∀ v h', k1 v h' = some out → k2 v h' = some out)
    (e : operV P c1 o e1 h k1 = some out) : operV P c2 o e2 h k2 = some out := by
  rw [operV_congr g] at e
  unfold operV at e ⊢
  split at e
  · rename_i f args ats
    split at e
    · rename_i gg first cap hf
      exact hc _ _ _ _ _ hk e
    · cases e
  · rename_i hne
    split at e
    · exact hk _ _ e
    · cases e

theorem wantedA_sim {ops : List Oper} {o : Oper} {A : List Nat} {a1 a2 : AF} (g : Agr A a1.env a2.env) (hg : guardOf ops o = some none ∨ ∃ t w, guardOf ops o = some (some (t, w)) ∧ hasT t A = true) : wantedA ops o a1 = wantedA ops o a2 := by
  rcases hg with hg | ⟨t, w, hg, ht⟩
  · simp only [wantedA, hg]
  · simp only [wantedA, hg]
    cases hb : Nat.blt t 512 with
    | false => rfl
    | true => rw [g t ht (Nat.blt_eq.mp hb)]

def dstL : List Step → List Nat → List Nat
  | [], A => A
  | s :: ss, A => dstL ss (match s.op.dst with | some t => t :: A | none => A)

/-- Is a temporary written by one of the operations? -/
def writes (t : Nat) : List Oper → Bool
  | [] => false
  | o :: os => match o.dst with
    | some u => match Nat.beq t u with | true => true | false => writes t os
    | none => writes t os

/-- Calls that turn nothing. -/
def CalmSim (pq : Nat → Bool) (c1 c2 : CallH ω) (out : ω) : Prop :=
  ∀ f, pq f = true → ∀ (args : List AV) (h : AH) (k : KV ω), c1 f args h k = some out → ∃ v, k v h = some out ∧ ∀ k2 : KV ω, k2 v h = some out → c2 f args h k2 = some out

theorem same_tame {v : AV} (h : tame v = true) : same 40 v v = true := by
  have hb : ∀ n, Nat.beq n n = true := Nat.beq_refl
  have hi : ∀ i : Id, Id.same i i = true := fun i => by simp only [Id.same, D8.same, hb]
  have hz : ∀ z : Int, eqI z z = true := fun z => by cases z <;> simp only [eqI, hb]
  have hk : ∀ k : IntKind, eqK k k = true := fun k => by cases k <;> rfl
  have hl : ∀ l : List Nat, eqL l l = true := fun l => by
    induction l with
    | nil => rfl
    | cons a l ih => simp only [eqL, hb]; exact ih
  have hc : ∀ c : Cap, sameO c c = true := fun c => by cases c <;> simp only [sameO, hb]
  cases v <;> first | (cases h; done) | skip
  · rename_i b; cases b <;> rfl
  · simp only [same, hk, hz]
  · simp only [same, hl]
  · rfl
  · simp only [same, hb, hi]
  · rfl
  · simp only [same, hb, hc, hi]
  · rfl
  · simp only [same, hi]
  · rfl
  · rfl

theorem calm_steady {pre : Nat} {h : AH} : ∀ {r1 r2 : List Seen} {l1 : List Seen}, SeenA r1 r2 → (∀ s ∈ r2, ∃ q, opA P s.op s.env h = some (s.val, q)) → calm pre r1 = some l1 →
    ∃ l2, steady P pre h r2 = some l2 ∧ SeenA l1 l2 ∧ ∀ s ∈ l2, ∃ q, opA P s.op s.env h = some (s.val, q)
  | _, _, l1, .nil, _, e => by
    simp only [calm] at e
    cases e
    exact ⟨[], rfl, .nil, fun s hs => by cases hs⟩
  | s1 :: r1, s2 :: r2, l1, .cons hs hr, hv, e => by
    have hs' := hs
    obtain ⟨h1, h2, h3, h4⟩ := hs
    simp only [calm] at e
    simp only [steady]
    rw [← h1]
    split at e
    · rename_i hb
      rw [hb]
      exact calm_steady hr (fun s hs => hv s (List.mem_cons_of_mem _ hs)) e
    · rename_i hb
      rw [hb]
      split at e <;> try (cases e; done)
      rename_i l ht hl
      cases e
      obtain ⟨l2, k1, k2, k3⟩ := calm_steady hr (fun s hs => hv s (List.mem_cons_of_mem _ hs)) hl
      obtain ⟨q, hq⟩ := hv s2 List.mem_cons_self
      refine ⟨s2 :: l2, ?_, .cons hs' k2, fun s hs => ?_⟩
      · rw [h3] at ht
        rw [hq, k1]
        simp only [same_tame ht]
      · rcases List.mem_cons.1 hs with rfl | hs
        · exact ⟨q, hq⟩
        · exact k3 s hs

theorem steady_valid {pre : Nat} {h : AH} : ∀ {r l : List Seen}, steady P pre h r = some l → ∀ s ∈ l, ∃ q, opA P s.op s.env h = some (s.val, q)
  | [], l, e, s, hs => by simp only [steady] at e; cases e; cases hs
  | s1 :: r, l, e, s, hs => by
    simp only [steady] at e
    split at e
    · exact steady_valid e s hs
    · split at e <;> try (cases e; done)
      rename_i v q l' ho hl
      split at e <;> try (cases e; done)
      rename_i hsame
      cases e
      rcases List.mem_cons.1 hs with rfl | hs
      · rw [← same_eq _ _ _ hsame] at ho
        exact ⟨q, ho⟩
      · exact steady_valid hl s hs

theorem stepsQ_sim {pq : Nat → Bool} {c1 c2 : CallH ω} (hq : CalmSim pq c1 c2 out) (hc : CallSim c1 c2 out) {n : Nat} (hn : n ≤ 512) {ops : List Oper} {k1 k2 : AF → AH → Option ω} :
    ∀ (p : List Step) (A : List Nat) (a1 a2 : AF) (h : AH) (us : List Made) (r1 r2 : List Seen), known ops p A = true → Agr A a1.env a2.env → a1.ds = a2.ds → SeenA r1 r2 → (isNilM us = true → ∀ s ∈ r2, ∃ q, opA P s.op s.env h = some (s.val, q)) →
      (∀ a1' a2' h', Agr (dstL p A) a1'.env a2'.env → a1'.ds = a1.ds → a2'.ds = a2.ds → (∀ t, t < 512 → writes t (p.map Step.op) = false → a2'.env.get t = a2.env.get t) → k1 a1' h' = some out → k2 a2' h' = some out) →
      stepsQ (F.tb P) pq c1 n ops p a1 h us r1 k1 = some out → stepsA P c2 n ops p a2 h us r2 k2 = some out
  | [], A, a1, a2, h, us, r1, r2, _, g, hd, _, _, hk, e => hk a1 a2 _ g rfl rfl (fun t _ _ => rfl) e
  | s :: ss, A, a1, a2, h, us, r1, r2, hkn, g, hd, hr, hval, hk, e => by
    have hops : (operandTmps s.op.op.operands.toList).all (fun t => hasT t A) = true := by
      simp only [known] at hkn
      split at hkn
      · rename_i h1 _; exact h1
      · rename_i h1 _; exact h1
      · cases hkn
    have hgd : guardOf ops s.op = some none ∨ ∃ t w, guardOf ops s.op = some (some (t, w)) ∧ hasT t A = true := by
      simp only [known] at hkn
      split at hkn
      · rename_i _ h2; exact .inl h2
      · rename_i t w _ h2
        split at hkn
        · rename_i h3; exact .inr ⟨t, w, h2, h3⟩
        · cases hkn
      · cases hkn
    have hkn' : known ops ss (match s.op.dst with | some t => t :: A | none => A) = true := by
      simp only [known] at hkn
      split at hkn
      · exact hkn
      · split at hkn
        · exact hkn
        · cases hkn
      · cases hkn
    have hagr : ∀ x ∈ s.op.op.operands, opv a1.env x = opv a2.env x := fun x hx => agr_ops g hops x (by simpa using hx)
    have hw := wantedA_sim (a1 := a1) (a2 := a2) g hgd
    -- what follows a value
    have go : ∀ (v : AV) (h' : AH) (us' : List Made) (q1 q2 : List Seen), SeenA q1 q2 → (isNilM us' = true → ∀ s ∈ q2, ∃ q, opA P s.op s.env h' = some (s.val, q)) → AF.put n a1 s.op.dst v (fun a' => stepsQ (F.tb P) pq c1 n ops ss a' h' us' q1 k1) = some out → AF.put n a2 s.op.dst v (fun a' => stepsA P c2 n ops ss a' h' us' q2 k2) = some out := by
      intro v h' us' q1 q2 hqq hqv e1
      cases hdst : s.op.dst with
      | none =>
        rw [hdst] at e1
        simp only [AF.put] at e1 ⊢
        rw [hdst] at hkn'
        refine stepsQ_sim hq hc hn ss A a1 a2 h' us' q1 q2 hkn' g hd hqq hqv (fun a1' a2' h2 g' d1 d2 hw' e2 => hk a1' a2' h2 ?_ d1 d2 ?_ e2) e1
        · simp only [dstL, hdst]; exact g'
        · intro t ht hwr
          refine hw' t ht ?_
          simpa only [List.map_cons, writes, hdst] using hwr
      | some t =>
        rw [hdst] at e1
        rw [hdst] at hkn'
        by_cases htn : t < n
        · have ht512 : t < 512 := Nat.lt_of_lt_of_le htn hn
          rw [put_some htn] at e1 ⊢
          refine stepsQ_sim hq hc hn ss (t :: A) ⟨a1.env.set t v, a1.ds⟩ ⟨a2.env.set t v, a2.ds⟩ h' us' q1 q2 hkn' (agr_put g ht512 v) hd hqq hqv (fun a1' a2' h2 g' d1 d2 hw' e2 => hk a1' a2' h2 ?_ d1 d2 ?_ e2) e1
          · simp only [dstL, hdst]; exact g'
          · intro u hu hwr
            simp only [List.map_cons, writes, hdst] at hwr
            split at hwr
            · cases hwr
            · rename_i hb
              rw [hw' u hu hwr]
              simp only
              rw [Env.get_set _ _ ht512 hu, if_neg (fun e => by rw [e, Nat.beq_refl] at hb; cases hb)]
        · have : Nat.blt t n = false := by
            cases hb : Nat.blt t n with
            | false => rfl
            | true => exact absurd (Nat.blt_eq.mp hb) htn
          simp only [AF.put, this] at e1
          cases e1
    simp only [stepsQ, fast_opA, fast_makeA, fast_steady, fast_operV] at e
    simp only [stepsA]
    rw [← hw]
    split at e
    · cases e
    · rename_i hwv
      rw [hwv]
      exact go _ _ _ _ _ hr hval e
    · rename_i hwv
      rw [hwv]
      simp only
      cases hkd : s.kind with
      | act =>
        rw [hkd] at e
        simp only at e ⊢
        split at e
        · rename_i rs' hca
          unfold calmAt at hca
          split at hca <;> try (cases hca; done)
          rename_i hco hnil
          have hus : us = [] := by cases us with | nil => rfl | cons u us => cases hnil
          subst hus
          obtain ⟨l2, k1', k2', k3'⟩ := calm_steady hr (hval rfl) hca
          simp only [commit]
          unfold calmOp at hco
          split at hco
          · rename_i f args ats hop
            rw [hop] at hagr
            rw [hop] at e ⊢
            rw [operV_congr hagr] at e
            simp only [operV, opv] at e ⊢
            obtain ⟨v, e1, e2⟩ := hq f hco _ _ _ e
            refine e2 _ ?_
            simp only [k1']
            exact go _ _ _ _ _ k2' (fun _ => k3') e1
          · cases hco
        · refine operV_sim hc hagr (fun v h' e1 => ?_) e
          split at e1
          · rename_i rs' hst
            obtain ⟨l2, k3, k4⟩ := steady_sim hr hst
            rw [k3]
            exact go _ _ _ _ _ k4 (fun _ => steady_valid k3) e1
          · cases e1
      | read =>
        rw [hkd] at e
        simp only at e ⊢
        rw [← opA_congr h hagr]
        split at e
        · rename_i v q ho
          rw [ho]
          refine go v h us (⟨s.i, s.op.op, a1.env, v⟩ :: r1) (⟨s.i, s.op.op, a2.env, v⟩ :: r2) (.cons ⟨rfl, rfl, rfl, hagr⟩ hr) (fun hn s' hs' => ?_) e
          rcases List.mem_cons.1 hs' with rfl | hs'
          · exact ⟨q, by simp only; rw [← opA_congr h hagr]; exact ho⟩
          · exact hval hn s' hs'
        · cases e
      | pure =>
        rw [hkd] at e
        simp only at e ⊢
        rw [← opA_congr h hagr]
        split at e
        · rename_i v q ho
          rw [ho]
          exact go _ _ _ _ _ hr hval e
        · cases e
      | make =>
        rw [hkd] at e
        simp only at e ⊢
        rw [← makeA_congr hagr]
        split at e
        · rename_i b mk hm
          rw [hm]
          split at e
          · rename_i i h' hsp
            simp only [hsp]
            exact go _ _ _ _ _ hr (fun hn => by cases hn) e
          · cases e
        · cases e

end Go.Ab.E

namespace Go.Ab
open Go.RowKit

variable {ω : Type} {P : Program}

/-! ### masks -/

theorem bit_eq (m i : Nat) : bit m i = m.testBit i := by
  unfold bit
  have : m.testBit i = (Nat.land (Nat.shiftRight m i) 1 != 0) := by
    rw [Nat.testBit]
    have : (1 &&& m >>> i) = Nat.land (Nat.shiftRight m i) 1 := Nat.and_comm _ _
    rw [this]
  rw [this]
  cases Nat.land (Nat.shiftRight m i) 1 <;> rfl

theorem bit_or (a b i : Nat) : bit (Nat.lor a b) i = (bit a i || bit b i) := by
  simp only [bit_eq]; exact Nat.testBit_or a b i

theorem bit_with (m i j : Nat) : bit (withBit m i) j = (bit m j || decide (j = i)) := by
  simp only [bit_eq, withBit]
  have : Nat.lor m (Nat.shiftLeft 1 i) = m ||| (1 <<< i) := rfl
  rw [this, Nat.testBit_or, Nat.one_shiftLeft, Nat.testBit_two_pow]
  congr 1
  simp [eq_comm]

theorem bit_zero (i : Nat) : bit 0 i = false := by rw [bit_eq]; simp

theorem subM_iff (p d : Nat) : subM p d = true ↔ ∀ j, bit p j = true → bit d j = true := by
  constructor
  · intro h j hj
    have h1 := Nat.eq_of_beq_eq_true h
    rw [bit_eq] at *
    have h2 : (Nat.land p d).testBit j = p.testBit j := by rw [h1]
    have h3 : (Nat.land p d).testBit j = (p.testBit j && d.testBit j) := Nat.testBit_and p d j
    rw [h3, hj] at h2
    simpa using h2
  · intro h
    unfold subM
    have : Nat.land p d = p := by
      refine Nat.eq_of_testBit_eq fun j => ?_
      have h3 : (Nat.land p d).testBit j = (p.testBit j && d.testBit j) := Nat.testBit_and p d j
      rw [h3]
      have := h j
      simp only [bit_eq] at this
      cases hp : p.testBit j with
      | false => rfl
      | true => rw [this hp]; rfl
    rw [this]
    exact Nat.beq_refl p

theorem edgeMask_spec (m : Masks) (j : Nat) : ∀ (es : List Edge) (acc : Nat), bit (edgeMask m es acc) j = true ↔ bit acc j = true ∨ ∃ e ∈ es, binds e = true ∧ (j = e.on ∨ bit (m.get e.on) j = true)
  | [], acc => by simp [edgeMask]
  | e :: es, acc => by
    simp only [edgeMask]
    split
    · rename_i hb
      rw [edgeMask_spec m j es, bit_or, bit_with]
      simp only [Bool.or_eq_true, decide_eq_true_eq, List.mem_cons]
      constructor
      · rintro (((h | h) | h) | ⟨x, hx, h⟩)
        · exact .inl h
        · exact .inr ⟨e, .inl rfl, hb, .inl h⟩
        · exact .inr ⟨e, .inl rfl, hb, .inr h⟩
        · exact .inr ⟨x, .inr hx, h⟩
      · rintro (h | ⟨x, rfl | hx, h1, h2⟩)
        · exact .inl (.inl (.inl h))
        · rcases h2 with h2 | h2
          · exact .inl (.inl (.inr h2))
          · exact .inl (.inr h2)
        · exact .inr ⟨x, hx, h1, h2⟩
    · rename_i hb
      rw [edgeMask_spec m j es]
      simp only [List.mem_cons]
      constructor
      · rintro (h | ⟨x, hx, h⟩)
        · exact .inl h
        · exact .inr ⟨x, .inr hx, h⟩
      · rintro (h | ⟨x, rfl | hx, h1, h2⟩)
        · exact .inl h
        · rw [hb] at h1; cases h1
        · exact .inr ⟨x, hx, h1, h2⟩

theorem binds_eq (e : Edge) : binds e = Region.binds .any e := by
  obtain ⟨on, g⟩ := e
  cases g <;> rfl

theorem masksOk_spec {m : Masks} : ∀ {os : List Oper} {i : Nat}, masksOk m os i = true → ∀ j o, os[j]? = some o → edgeMask m o.after.toList 0 = m.get (i + j) ∧ m.get (i + j) < 2 ^ (i + j)
  | [], i, _, j, o, ho => by simp at ho
  | q :: os, i, h, j, o, ho => by
    simp only [masksOk] at h
    split at h
    · rename_i hb hl
      rw [Nat.blt_eq] at hl
      cases j with
      | zero => simp at ho; subst ho; exact ⟨Nat.eq_of_beq_eq_true hb, hl⟩
      | succ j =>
        have := masksOk_spec h j o (by simpa using ho)
        rw [show i + (j + 1) = i + 1 + j by omega]
        exact this
    · cases h

theorem bit_lt {x i j : Nat} (h : x < 2 ^ i) (hb : bit x j = true) : j < i := by
  rw [bit_eq] at hb
  rcases Nat.lt_or_ge j i with h' | h'
  · exact h'
  · have := Nat.testBit_lt_two_pow (Nat.lt_of_lt_of_le h (Nat.pow_le_pow_right (by decide) h'))
    rw [this] at hb; cases hb

/-! ### plans -/

structure StepOk (P : Program) (ops : Array Oper) (m : Masks) (s : Step) : Prop where
  op : ops[s.i]? = some s.op
  kind : s.kind = kindOf P s.op.op
  pre : s.pre = m.get s.i

theorem allSteps_mem {m : Masks} {s : Step} : ∀ {os : List Oper} {i : Nat}, s ∈ allSteps P m os i → ∃ j o, os[j]? = some o ∧ s = stepOf P m o (i + j)
  | [], i, h => by simp [allSteps] at h
  | q :: os, i, h => by
    simp only [allSteps, List.mem_cons] at h
    rcases h with rfl | h
    · exact ⟨0, q, rfl, rfl⟩
    · obtain ⟨j, o, h1, h2⟩ := allSteps_mem h
      exact ⟨j + 1, o, by simpa using h1, by rw [h2]; congr 1; omega⟩

theorem allSteps_has {m : Masks} : ∀ {os : List Oper} {i j : Nat} {o : Oper}, os[j]? = some o → stepOf P m o (i + j) ∈ allSteps P m os i
  | [], i, j, o, h => by simp at h
  | q :: os, i, j, o, h => by
    simp only [allSteps, List.mem_cons]
    cases j with
    | zero => simp at h; subst h; exact .inl rfl
    | succ j =>
      have := allSteps_has (m := m) (i := i + 1) (j := j) (o := o) (os := os) (by simpa using h)
      exact .inr (by rwa [show i + (j + 1) = i + 1 + j by omega])

theorem early_mem {s : Step} : ∀ {ss : List Step} {done : Nat} {out left : List Step}, (s ∈ (early ss done out left).1 → s ∈ ss ∨ s ∈ out) ∧ (s ∈ (early ss done out left).2.1 → s ∈ ss ∨ s ∈ left)
  | [], done, out, left => by simp [early]
  | q :: ss, done, out, left => by
    simp only [early]
    split
    · have ⟨h1, h2⟩ := early_mem (s := s) (ss := ss) (done := withBit done q.i) (out := q :: out) (left := left)
      refine ⟨fun h => ?_, fun h => ?_⟩
      · rcases h1 h with h | h
        · exact .inl (List.mem_cons_of_mem _ h)
        · rcases List.mem_cons.1 h with rfl | h
          · exact .inl List.mem_cons_self
          · exact .inr h
      · rcases h2 h with h | h
        · exact .inl (List.mem_cons_of_mem _ h)
        · exact .inr h
    · have ⟨h1, h2⟩ := early_mem (s := s) (ss := ss) (done := done) (out := out) (left := q :: left)
      refine ⟨fun h => ?_, fun h => ?_⟩
      · rcases h1 h with h | h
        · exact .inl (List.mem_cons_of_mem _ h)
        · exact .inr h
      · rcases h2 h with h | h
        · exact .inl (List.mem_cons_of_mem _ h)
        · rcases List.mem_cons.1 h with rfl | h
          · exact .inl List.mem_cons_self
          · exact .inr h

theorem nextAct_mem {s w : Step} {rest : List Step} : ∀ {ss : List Step} {done : Nat} {left : List Step}, nextAct ss done left = some (w, rest) → (w ∈ ss) ∧ (s ∈ rest → s ∈ ss ∨ s ∈ left)
  | [], done, left, h => by simp [nextAct] at h
  | q :: ss, done, left, h => by
    simp only [nextAct] at h
    split at h
    · cases h
      refine ⟨List.mem_cons_self, fun hs => ?_⟩
      rcases List.mem_append.1 hs with hs | hs
      · exact .inr (by simpa using hs)
      · exact .inl (List.mem_cons_of_mem _ hs)
    · obtain ⟨h1, h2⟩ := nextAct_mem (s := s) h
      refine ⟨List.mem_cons_of_mem _ h1, fun hs => ?_⟩
      rcases h2 hs with h3 | h3
      · exact .inl (List.mem_cons_of_mem _ h3)
      · rcases List.mem_cons.1 h3 with rfl | h3
        · exact .inl List.mem_cons_self
        · exact .inr h3

theorem planGo_mem {s : Step} : ∀ {r : Nat} {ss : List Step} {done : Nat}, s ∈ planGo r ss done → s ∈ ss
  | 0, ss, done, h => by simp [planGo] at h
  | r + 1, ss, done, h => by
    simp only [planGo] at h
    have ⟨h1, h2⟩ := early_mem (s := s) (ss := ss) (done := done) (out := []) (left := [])
    have k1 : s ∈ (early ss done [] []).1 → s ∈ ss := fun h => by simpa using h1 h
    split at h
    · rename_i w left' hn
      rcases List.mem_append.1 h with h | h
      · exact k1 h
      · have k2 : ∀ x, x ∈ (early ss done [] []).2.1 → x ∈ ss := fun x hx => by
          have ⟨_, h3⟩ := early_mem (s := x) (ss := ss) (done := done) (out := []) (left := [])
          simpa using h3 hx
        obtain ⟨h3, h4⟩ := nextAct_mem (s := s) hn
        rcases List.mem_cons.1 h with rfl | h
        · exact k2 _ h3
        · have := planGo_mem h
          exact k2 _ (by simpa using h4 this)
    · exact k1 h

theorem apartT_spec {ops : List Oper} {s : Step} {t : Nat} : ∀ {l : List Step}, apartT ops s t l = true → ∀ r ∈ l, r.i ≠ s.i → sameDst r.op.dst t = false ∧ (namesT ops r.op t = true → bit r.pre s.i = true ∨ bit s.pre r.i = true)
  | [], _, r, hr, _ => by simp at hr
  | q :: l, h, r, hr, hne => by
    simp only [apartT] at h
    have rest : apartT ops s t l = true → r ∈ l → _ := fun h1 h2 => apartT_spec h1 r h2 hne
    split at h
    · rename_i hb
      rcases List.mem_cons.1 hr with rfl | hr
      · exact absurd (Nat.eq_of_beq_eq_true hb) hne
      · exact rest h hr
    · split at h
      · cases h
      · rename_i h1 h2
        rcases List.mem_cons.1 hr with rfl | hr
        · exact ⟨h1, fun h3 => by rw [h2] at h3; cases h3⟩
        · exact rest h hr
      · rename_i h1 h2
        split at h
        · cases h
        · rename_i hno
          rcases List.mem_cons.1 hr with rfl | hr
          · refine ⟨h1, fun _ => ?_⟩
            cases hx : bit r.pre s.i with
            | true => exact .inl rfl
            | false => cases hy : bit s.pre r.i with
              | true => exact .inr rfl
              | false => exact (hno hx hy).elim
          · exact rest h hr

theorem apartAll_spec {ops : List Oper} {all : List Step} : ∀ {l : List Step}, apartAll ops all l = true → ∀ s ∈ l, ∀ t, s.op.dst = some t → ∀ r ∈ all, r.i ≠ s.i → sameDst r.op.dst t = false ∧ (namesT ops r.op t = true → bit r.pre s.i = true ∨ bit s.pre r.i = true)
  | [], _, s, hs, _, _, _, _, _ => by simp at hs
  | q :: l, h, s, hs, t, ht, r, hr, hne => by
    simp only [apartAll] at h
    split at h
    · rename_i hd
      rcases List.mem_cons.1 hs with rfl | hs
      · rw [hd] at ht; cases ht
      · exact apartAll_spec h s hs t ht r hr hne
    · rename_i u hd
      split at h
      · rename_i ha
        rcases List.mem_cons.1 hs with rfl | hs
        · rw [hd] at ht; cases ht
          exact apartT_spec ha r hr hne
        · exact apartAll_spec h s hs t ht r hr hne
      · cases h

theorem namesT_op {ops : List Oper} {o : Oper} {t : Nat} (h : Operand.tmp t ∈ o.op.operands) : namesT ops o t = true := by
  unfold namesT
  rw [Bool.or_eq_true]
  left
  rw [List.any_eq_true]
  exact ⟨.tmp t, by simpa using h, Nat.beq_refl t⟩

theorem namesT_guard {ops : List Oper} {o q : Oper} {g : Nat} {want : Bool} {t : Nat} (hg : o.guard = some (g, want)) (hq : ops[g]? = some q) (hd : q.dst = some t) : namesT ops o t = true := by
  unfold namesT
  rw [Bool.or_eq_true]
  right
  simp only [hg, hq, hd]
  exact Nat.beq_refl t

/-- What is known of a region's plan. -/
structure PlanFacts (P : Program) (ops : Array Oper) (m : Masks) : Prop where
  lt : ∀ i o j, ops[i]? = some o → bit (m.get i) j = true → j < i
  edge : ∀ i o e, ops[i]? = some o → e ∈ o.after → Region.binds .any e = true → bit (m.get i) e.on = true
  inv : ∀ i o j, ops[i]? = some o → bit (m.get i) j = true → ∃ e ∈ o.after, Region.binds .any e = true ∧ (j = e.on ∨ bit (m.get e.on) j = true)
  once : ∀ (i : Nat) (o : Oper) (j : Nat) (q : Oper) (t : Nat), ops[i]? = some o → o.dst = some t → ops[j]? = some q → j ≠ i → q.dst ≠ some t
  apart : ∀ (i : Nat) (o : Oper) (j : Nat) (q : Oper) (t : Nat), ops[i]? = some o → o.dst = some t → ops[j]? = some q → j ≠ i → namesT ops.toList q t = true → bit (m.get j) i = true ∨ bit (m.get i) j = true

theorem planOf_spec {ops : Array Oper} {p : List Step} (h : planOf P ops.toList = some p) : ∃ m, PlanFacts P ops m ∧ orderOk ops.size p 0 = true ∧ ∀ s ∈ p, StepOk P ops m s := by
  unfold planOf at h
  simp only at h
  split at h <;> try (cases h; done)
  rename_i h1 h2
  split at h <;> try (cases h; done)
  rename_i h3 h4
  cases h
  generalize masks ops.toList 0 (N8.all (N8.all (N8.all 0))) = m at *
  have hm : ∀ i o, ops[i]? = some o → edgeMask m o.after.toList 0 = m.get i := fun i o ho => by
    have := (masksOk_spec h1 i o (by simpa using ho)).1
    simpa using this
  have hl : ∀ i o, ops[i]? = some o → m.get i < 2 ^ i := fun i o ho => by
    have := (masksOk_spec h1 i o (by simpa using ho)).2
    simpa using this
  refine ⟨m, ⟨fun i o j ho hj => bit_lt (hl i o ho) hj, fun i o e ho he hb => ?_, fun i o j ho hj => ?_, fun i o j q t ho hd hq hne => ?_, fun i o j q t ho hd hq hne hn => ?_⟩, by simpa using h3, fun s hs => ?_⟩
  · rw [← hm i o ho, edgeMask_spec]
    exact .inr ⟨e, by simpa using he, by rw [binds_eq]; exact hb, .inl rfl⟩
  · rw [← hm i o ho, edgeMask_spec] at hj
    rcases hj with hj | ⟨e, he, hb, hj⟩
    · rw [bit_zero] at hj; cases hj
    · exact ⟨e, by simpa using he, by rw [← binds_eq]; exact hb, hj⟩
  · have hi := allSteps_has (P := P) (m := m) (i := 0) (j := i) (o := o) (os := ops.toList) (by simpa using ho)
    have hj := allSteps_has (P := P) (m := m) (i := 0) (j := j) (o := q) (os := ops.toList) (by simpa using hq)
    have := (apartAll_spec h4 _ hi t hd _ hj (by simpa [stepOf] using hne)).1
    intro hc
    simp only [stepOf, hc, sameDst, Nat.beq_refl] at this
    cases this
  · have hi := allSteps_has (P := P) (m := m) (i := 0) (j := i) (o := o) (os := ops.toList) (by simpa using ho)
    have hj := allSteps_has (P := P) (m := m) (i := 0) (j := j) (o := q) (os := ops.toList) (by simpa using hq)
    have := (apartAll_spec h4 _ hi t hd _ hj (by simpa [stepOf] using hne)).2 hn
    simpa [stepOf] using this
  · obtain ⟨j, o, k1, rfl⟩ := allSteps_mem (planGo_mem hs)
    exact ⟨by simpa [stepOf] using k1, rfl, rfl⟩

end Go.Ab

namespace Go.Ab
open Go.RowKit

variable {ω : Type} {P : Program} {n0 : Nat} {w0 : World} {ρ : Pl} {w : World}

/-! ### frames -/

def putE (e : Env) (dst : Option Nat) (v : AV) : Env := match dst with | none => e | some d => e.set d v

theorem AF.put_some {n : Nat} {e : Env} {ds : List (Nat × List AV)} {dst : Option Nat} {v : AV} {k : AF → Option ω} {out : ω} (h : AF.put n ⟨e, ds⟩ dst v k = some out) :
    (∀ d, dst = some d → d < n) ∧ k ⟨putE e dst v, ds⟩ = some out := by
  cases dst with
  | none => exact ⟨fun d h => (by cases h), h⟩
  | some d =>
    simp only [AF.put] at h
    split at h
    · rename_i hb; rw [Nat.blt_eq] at hb; exact ⟨fun d' h' => by cases h'; exact hb, h⟩
    · cases h

theorem FR.putE {n : Nat} {e : Env} {ds : List (Nat × List AV)} {a : Act} {dst : Option Nat} {v : AV} {x : Value} (hn : n ≤ 512) (F : FR ρ n ⟨e, ds⟩ a) (hd : ∀ d, dst = some d → d < n) (r : VR ρ v x) :
    FR ρ n ⟨putE e dst v, ds⟩ (a.put dst x) := by
  cases dst with
  | none => exact F
  | some d => exact ⟨F.env.set (hd d rfl) hn r, F.ds⟩

/-! ### hidden blocks -/

structure HeapIs (h : AH) (us : List Made) (S : Nat → Bool) (hS : AH) : Prop where
  next : hS.next = h.next
  get : ∀ j b, hS.get j = some b ↔ h.get j = some b ∨ ∃ u ∈ us, S u.i = true ∧ u.id = j ∧ u.b = b

def fillS (S : Nat → Bool) : List Made → AH → AH
  | [], h => h
  | u :: us, h => match S u.i with
    | true => (fillS S us h).set u.id (some u.b)
    | false => fillS S us h

theorem fillS_is {S : Nat → Bool} {h : AH} : ∀ {us : List Made}, (∀ u ∈ us, h.get u.id = none) → (∀ u ∈ us, ∀ v ∈ us, u.id = v.id → u = v) → HeapIs h us S (fillS S us h)
  | [], _, _ => ⟨rfl, fun j b => by simp [fillS]⟩
  | u :: us, hno, hd => by
    have ih := fillS_is (S := S) (h := h) (us := us) (fun v hv => hno v (List.mem_cons_of_mem _ hv)) (fun v hv x hx => hd v (List.mem_cons_of_mem _ hv) x (List.mem_cons_of_mem _ hx))
    simp only [fillS]
    split
    · rename_i hS
      refine ⟨by rw [AH.next_set]; exact ih.next, fun j b => ?_⟩
      rw [AH.get_set]
      by_cases hj : j = u.id
      · rw [if_pos hj]
        constructor
        · intro e; cases e; exact .inr ⟨u, List.mem_cons_self, hS, hj.symm, rfl⟩
        · rintro (e | ⟨v, hv, _, h2, h3⟩)
          · rw [hj, hno u List.mem_cons_self] at e; cases e
          · have : v = u := hd v hv u List.mem_cons_self (h2.trans hj)
            subst this; rw [h3]
      · rw [if_neg hj, ih.get]
        constructor
        · rintro (e | ⟨v, hv, h1⟩)
          · exact .inl e
          · exact .inr ⟨v, List.mem_cons_of_mem _ hv, h1⟩
        · rintro (e | ⟨v, hv, h1, h2, h3⟩)
          · exact .inl e
          · rcases List.mem_cons.1 hv with rfl | hv
            · exact absurd h2.symm hj
            · exact .inr ⟨v, hv, h1, h2, h3⟩
    · rename_i hS
      refine ⟨ih.next, fun j b => ?_⟩
      rw [ih.get]
      constructor
      · rintro (e | ⟨v, hv, h1⟩)
        · exact .inl e
        · exact .inr ⟨v, List.mem_cons_of_mem _ hv, h1⟩
      · rintro (e | ⟨v, hv, h1, h2, h3⟩)
        · exact .inl e
        · rcases List.mem_cons.1 hv with rfl | hv
          · rw [hS] at h1; cases h1
          · exact .inr ⟨v, hv, h1, h2, h3⟩

theorem commitAll_get {h : AH} {j : Id} {b : AB} : ∀ {us : List Made}, (commitAll us h).get j = some b → h.get j = some b ∨ ∃ u ∈ us, u.id = j ∧ u.b = b
  | [], e => .inl e
  | u :: us, e => by
    simp only [commitAll] at e
    rw [AH.get_set] at e
    split at e
    · rename_i hj; cases e; exact .inr ⟨u, List.mem_cons_self, hj.symm, rfl⟩
    · rcases commitAll_get e with h1 | ⟨v, hv, h1⟩
      · exact .inl h1
      · exact .inr ⟨v, List.mem_cons_of_mem _ hv, h1⟩

theorem commitAll_next {h : AH} : ∀ {us : List Made}, (commitAll us h).next = h.next
  | [] => rfl
  | u :: us => by simp only [commitAll]; rw [AH.next_set]; exact commitAll_next

theorem commit_spec {pre : Nat} {h : AH} : ∀ {us : List Made} {h1 : AH} {us' : List Made}, commit pre us h = (h1, us') →
    (∀ j b, h1.get j = some b → h.get j = some b ∨ ∃ u ∈ us, bit pre u.i = true ∧ u.id = j ∧ u.b = b) ∧ (∀ u, u ∈ us' ↔ u ∈ us ∧ bit pre u.i = false) ∧ h1.next = h.next
  | [], h1, us', e => by
    simp only [commit, Prod.mk.injEq] at e
    obtain ⟨rfl, rfl⟩ := e
    exact ⟨fun j b h => .inl h, fun u => by simp, rfl⟩
  | u :: us, h1, us', e => by
    simp only [commit] at e
    rcases hc : commit pre us h with ⟨h2, left⟩
    rw [hc] at e
    simp only at e
    obtain ⟨i1, i2, i3⟩ := commit_spec hc
    split at e
    · rename_i hb
      simp only [Prod.mk.injEq] at e
      obtain ⟨rfl, rfl⟩ := e
      refine ⟨fun j b hj => ?_, fun v => ?_, by rw [AH.next_set]; exact i3⟩
      · rw [AH.get_set] at hj
        split at hj
        · rename_i hji; cases hj; exact .inr ⟨u, List.mem_cons_self, hb, hji.symm, rfl⟩
        · rcases i1 j b hj with h3 | ⟨v, hv, h3⟩
          · exact .inl h3
          · exact .inr ⟨v, List.mem_cons_of_mem _ hv, h3⟩
      · rw [i2, List.mem_cons]
        constructor
        · rintro ⟨h3, h4⟩; exact ⟨.inr h3, h4⟩
        · rintro ⟨rfl | h3, h4⟩
          · rw [hb] at h4; cases h4
          · exact ⟨h3, h4⟩
    · rename_i hb
      simp only [Prod.mk.injEq] at e
      obtain ⟨rfl, rfl⟩ := e
      refine ⟨fun j b hj => ?_, fun v => ?_, i3⟩
      · rcases i1 j b hj with h3 | ⟨v, hv, h3⟩
        · exact .inl h3
        · exact .inr ⟨v, List.mem_cons_of_mem _ hv, h3⟩
      · rw [List.mem_cons, i2, List.mem_cons]
        constructor
        · rintro (rfl | ⟨h3, h4⟩)
          · exact ⟨.inl rfl, hb⟩
          · exact ⟨.inr h3, h4⟩
        · rintro ⟨rfl | h3, h4⟩
          · exact .inl rfl
          · exact .inr ⟨h3, h4⟩

theorem steady_spec {pre : Nat} {h : AH} : ∀ {rs rs' : List Seen}, steady P pre h rs = some rs' → ∀ s ∈ rs, bit pre s.i = false → s ∈ rs' ∧ ∃ h', opA P s.op s.env h = some (s.val, h')
  | [], rs', _, s, hs, _ => by simp at hs
  | q :: rs, rs', e, s, hs, hb => by
    simp only [steady] at e
    split at e
    · rename_i hq
      rcases List.mem_cons.1 hs with rfl | hs
      · rw [hq] at hb; cases hb
      · exact steady_spec e s hs hb
    · split at e
      · rename_i v h' left hop hst
        split at e
        · rename_i hsame
          cases e
          rcases List.mem_cons.1 hs with rfl | hs
          · have := same_eq _ _ _ hsame
            exact ⟨List.mem_cons_self, h', by rw [hop, this]⟩
          · obtain ⟨h1, h2⟩ := steady_spec hst s hs hb
            exact ⟨List.mem_cons_of_mem _ h1, h2⟩
        · cases e
      · cases e

theorem spare_spec {h h' : AH} {i : Id} (e : h.spare = some (i, h')) : i = h.next ∧ h'.next.toNat = h.next.toNat + 1 ∧ ∀ j, h'.get j = h.get j := by
  obtain ⟨t, n⟩ := h
  simp only [AH.spare] at e
  split at e
  · rename_i n' hn
    cases e
    exact ⟨rfl, Id.succ_toNat hn, fun _ => rfl⟩
  · cases e

/-- What is hidden stays as it is. -/
theorem HR.hide {ρ' : Pl} {h1 hS h' hS' : AH} {w' : World} (HS : HR n0 w0 ρ hS w) (sub : Sub h1 hS) (hn : h1.next = hS.next) (G : Goes ρ h1 w ρ' h' w') (H' : HR n0 w0 ρ' h' w')
    (hg : ∀ j b, hS'.get j = some b → h'.get j = some b ∨ (hS.get j = some b ∧ h1.get j = none)) (hn' : hS'.next = h'.next) : HR n0 w0 ρ' hS' w' ∧ Goes ρ hS w ρ' hS' w' := by
  -- the places of the blocks that h' owns are new, or places that h1 owned
  have place : ∀ i b pl, h'.get i = some b → ρ' i = some pl → w.heap.size ≤ pl.blk ∨ (∃ j bj pj, h1.get j = some bj ∧ bj.owned = true ∧ ρ j = some pj ∧ pj.blk = pl.blk) ∨ ∃ b0, h1.get i = some b0 ∧ (b.owned = true → b0.owned = true) ∧ ρ i = some pl :=
    fun i b pl hb hp => by
      rcases G.img i b hb with ⟨_, h2⟩ | ⟨b0, h2, h3, h4⟩
      · rcases h2 pl hp with h2 | h2
        · exact .inl h2
        · exact .inr (.inl h2)
      · exact .inr (.inr ⟨b0, h2, h3, h4 pl hp⟩)
  have hid : ∀ j b, hS.get j = some b → h1.get j = none → ∃ pl, ρ j = some pl ∧ ρ' j = some pl ∧ BR ρ w pl b ∧ (b.owned = true → n0 ≤ pl.blk) := fun j b hj _ => by
    obtain ⟨pl, h2, h3, h4⟩ := HS.blocks j b hj
    exact ⟨pl, h2, G.ext _ _ h2, h3, h4⟩
  have apart : ∀ j b pl, hS.get j = some b → h1.get j = none → ρ j = some pl → ∀ i bi pi, h1.get i = some bi → bi.owned = true → ρ i = some pi → pi.blk ≠ pl.blk := fun j b pl hj hj1 hp i bi pi hi hbo hpi => by
    have hij : i ≠ j := fun e => by rw [e, hj1] at hi; cases hi
    exact HS.inj i j bi b pi pl (sub _ _ hi) hj hpi hp hij hbo
  refine ⟨⟨fun j b hj => ?_, fun i j bi bj pi pj hi hj hpi hpj hij ho => ?_, fun i hi => H'.fresh i (by rw [hn'] at hi; exact hi), H'.lt, H'.below, H'.base⟩, G.ext, G.size, by rw [← hn, hn']; exact G.next, fun cb hcb hno => ?_, fun i b hb => ?_, fun i pl hp => ?_⟩
  · rcases hg j b hj with h2 | ⟨h2, h3⟩
    · exact H'.blocks j b h2
    · obtain ⟨pl, k1, k2, k3, k4⟩ := hid j b h2 h3
      refine ⟨pl, k2, (k3.keep ?_).mono G.ext, k4⟩
      exact G.frame _ (HS.lt _ _ k1) fun i bi pi hi hbo hpi => apart j b pl h2 h3 k1 i bi pi hi hbo hpi
  · rcases hg i bi hi with h2 | ⟨h2, h3⟩
    · rcases hg j bj hj with h4 | ⟨h4, h5⟩
      · exact H'.inj i j bi bj pi pj h2 h4 hpi hpj hij ho
      · obtain ⟨pl, k1, k2, k3, k4⟩ := hid j bj h4 h5
        rw [hpj] at k2; cases k2
        have hlt := HS.lt _ _ k1
        rcases place i bi pi h2 hpi with q | ⟨x, bx, px, q1, q2, q3, q4⟩ | ⟨b0, q1, q2, q3⟩
        · omega
        · rw [← q4]; exact apart j bj pj h4 h5 k1 x bx px q1 q2 q3
        · exact apart j bj pj h4 h5 k1 i b0 pi q1 (q2 ho) q3
    · obtain ⟨pl, k1, k2, k3, k4⟩ := hid i bi h2 h3
      rw [hpi] at k2; cases k2
      have hlt := HS.lt _ _ k1
      rcases hg j bj hj with h4 | ⟨h4, h5⟩
      · rcases place j bj pj h4 hpj with q | ⟨x, bx, px, q1, q2, q3, q4⟩ | ⟨b0, q1, q2, q3⟩
        · omega
        · rw [← q4]; exact (apart i bi pi h2 h3 k1 x bx px q1 q2 q3).symm
        · exact HS.inj i j bi b0 pi pj h2 (sub _ _ q1) k1 q3 hij ho
      · obtain ⟨pl2, l1, l2, l3, l4⟩ := hid j bj h4 h5
        rw [hpj] at l2; cases l2
        exact HS.inj i j bi bj pi pj h2 h4 k1 l1 hij ho
  · exact G.frame cb hcb fun i b pl hb ho hp => hno i b pl (sub _ _ hb) ho hp
  · rcases hg i b hb with h2 | ⟨h2, h3⟩
    · rcases G.img i b h2 with ⟨k1, k2⟩ | ⟨b0, k1, k2, k3⟩
      · refine .inl ⟨by rw [← hn]; exact k1, fun pl hp => ?_⟩
        rcases k2 pl hp with k3 | ⟨j, bj, pj, k3, k4, k5, k6⟩
        · exact .inl k3
        · exact .inr ⟨j, bj, pj, sub _ _ k3, k4, k5, k6⟩
      · exact .inr ⟨b0, sub _ _ k1, k2, k3⟩
    · obtain ⟨pl, k1, k2, _⟩ := hid i b h2 h3
      exact .inr ⟨b, h2, id, fun pl' hp => by rw [k2] at hp; cases hp; exact k1⟩
  · rcases G.grows i pl hp with h2 | h2
    · exact .inl h2
    · exact .inr (by rw [← hn]; exact h2)

theorem Goes.sub {ρ' : Pl} {h hS h' : AH} {w' : World} (G : Goes ρ h w ρ' hS w') (hg : Sub h' hS) (hn : h'.next = hS.next) : Goes ρ h w ρ' h' w' :=
  ⟨G.ext, G.size, by rw [hn]; exact G.next, G.frame, fun i b hb => G.img i b (hg _ _ hb), G.grows⟩

/-- A block that is made gets its number. -/
theorem HR.made {ρ0 : Pl} {h0 hS hS' : AH} {ws wd : World} {i : Id} {b : AB} {o : Obj} (HS : HR n0 w0 ρ hS w) (G : Goes ρ0 h0 ws ρ hS w) (hwd : wd = w ∨ wd = w.drew) (pl : Place) (hpl : pl.blk = w.heap.size)
    (hi : ρ i = none) (hlt : i.toNat < hS.next.toNat) (h0i : h0.next.toNat ≤ i.toNat) (hn : hS'.next = hS.next) (hg : ∀ j bj, hS'.get j = some bj → (j = i ∧ bj = b) ∨ (j ≠ i ∧ hS.get j = some bj))
    (hB : BR (ρ.with i pl) (wd.alloc o) pl b) : HR n0 w0 (ρ.with i pl) hS' (wd.alloc o) ∧ Goes ρ0 h0 ws (ρ.with i pl) hS' (wd.alloc o) := by
  have Hd : HR n0 w0 ρ hS wd := by rcases hwd with rfl | rfl; exact HS; exact HS.drew
  have Gd : Goes ρ0 h0 ws ρ hS wd := by rcases hwd with rfl | rfl; exact G; exact G.drew
  have hsz : wd.heap.size = w.heap.size := by rcases hwd with rfl | rfl <;> rfl
  have hext : Ext ρ (ρ.with i pl) := Pl.with_ext pl hi
  have hkeep : ∀ k, k < wd.heap.size → (wd.alloc o).heap[k]? = wd.heap[k]? := fun k hk => Below.heap_alloc wd o k hk
  refine ⟨Hd.put hext (Pl.with_same ρ i pl) Pl.with_inv hg (by rw [hn]; exact Nat.le_refl _) (by rw [hn]; exact hlt) hB (fun _ => by rw [hpl]; exact HS.base) (fun k _ hk => hkeep k hk) ?_ (by simp)
    ((Below.refl n0 wd).alloc Hd.base o), Gd.ext.trans hext, by have := Gd.size; simp; omega, by rw [hn]; exact Gd.next, fun cb hcb hno => ?_, fun j bj hj => ?_, fun j pj hp => ?_⟩
  · intro j bj pj hj hj' hpj e
    have := Hd.lt j pj hpj
    omega
  · rw [hkeep cb (Nat.lt_of_lt_of_le hcb Gd.size)]
    exact Gd.frame cb hcb hno
  · rcases hg j bj hj with ⟨rfl, rfl⟩ | ⟨hji, hj'⟩
    · refine .inl ⟨h0i, fun pj hpj => ?_⟩
      rw [Pl.with_same] at hpj; cases hpj
      have := Gd.size
      exact .inl (by omega)
    · have back : ∀ pj, ρ.with i pl j = some pj → ρ j = some pj := fun pj hpj => by
        rcases Pl.with_inv j pj hpj with h1 | h1
        · exact absurd h1 hji
        · exact h1
      rcases Gd.img j bj hj' with ⟨k1, k2⟩ | ⟨b0, k1, k2, k3⟩
      · exact .inl ⟨k1, fun pj hpj => k2 pj (back pj hpj)⟩
      · exact .inr ⟨b0, k1, k2, fun pj hpj => k3 pj (back pj hpj)⟩
  · rcases Pl.with_inv j pj hp with h1 | h1
    · subst h1; exact .inr h0i
    · exact Gd.grows j pj h1

end Go.Ab

namespace Go.Ab
open Go.RowKit

variable {ω : Type} {P : Program} {n0 : Nat} {w0 : World} {ops : Array Oper} {m : Masks}

/-! ### what the temporaries hold -/

structure Cur (ops : Array Oper) (e0 : Env) (V : Nat → AV) (D : Nat → Bool) (e : Env) : Prop where
  wrote : ∀ (i : Nat) (o : Oper) (t : Nat), ops[i]? = some o → o.dst = some t → t < 512 → D i = true → e.get t = V i
  kept : ∀ t, t < 512 → (∀ (i : Nat) (o : Oper), ops[i]? = some o → o.dst = some t → D i = false) → e.get t = e0.get t

theorem Cur.congr {e0 e : Env} {V V' : Nat → AV} {D : Nat → Bool} (C : Cur ops e0 V D e) (h : ∀ j, D j = true → V' j = V j) : Cur ops e0 V' D e :=
  ⟨fun i o t hi hd ht hD => (C.wrote i o t hi hd ht hD).trans (h i hD).symm, C.kept⟩

theorem Cur.step (PF : PlanFacts P ops m) {e0 e : Env} {V V' : Nat → AV} {D D' : Nat → Bool} (C : Cur ops e0 V D e) {i : Nat} {o : Oper} (hi : ops[i]? = some o) (hV : ∀ j, D j = true → V' j = V j) {v : AV} (hv : V' i = v)
    (hD' : ∀ j, D' j = (D j || decide (j = i))) (hd : ∀ d, o.dst = some d → d < 512) : Cur ops e0 V' D' (putE e o.dst v) := by
  refine ⟨fun j q t hj hq ht hDj => ?_, fun t ht hno => ?_⟩
  · by_cases hji : j = i
    · subst hji
      rw [hi] at hj; cases hj
      rw [hq]
      simp only [putE]
      rw [Env.get_set e v ht ht, if_pos rfl, hv]
    · have hDj' : D j = true := by rw [hD'] at hDj; simpa [hji] using hDj
      cases ho : o.dst with
      | none => simp only [putE]; rw [C.wrote j q t hj hq ht hDj', hV j hDj']
      | some d =>
        have hne : t ≠ d := fun e => PF.once i o j q d hi ho hj hji (by rw [hq, e])
        simp only [putE]
        rw [Env.get_set e v (hd d ho) ht, if_neg hne, C.wrote j q t hj hq ht hDj', hV j hDj']
  · have h1 : e.get t = e0.get t := C.kept t ht fun j q hj hq => by
      have := hno j q hj hq
      rw [hD'] at this
      simp only [Bool.or_eq_false_iff] at this
      exact this.1
    cases ho : o.dst with
    | none => exact h1
    | some d =>
      have hne : t ≠ d := fun e => by
        subst e
        have := hno i o hi ho
        rw [hD'] at this
        simp at this
      simp only [putE]
      rw [Env.get_set e v (hd d ho) ht, if_neg hne]
      exact h1

theorem Cur.agree (PF : PlanFacts P ops m) {e0 e e' : Env} {V V' : Nat → AV} {S D : Nat → Bool} (A : Cur ops e0 V S e) (B : Cur ops e0 V' D e') (hV : ∀ j, S j = true → D j = true → V j = V' j) {i : Nat} {o : Oper} (hi : ops[i]? = some o)
    (hS : S i = false) (hD : D i = false) (pS : ∀ j, bit (m.get i) j = true → S j = true) (pD : ∀ j, bit (m.get i) j = true → D j = true) (cS : ∀ r j, S r = true → bit (m.get r) j = true → S j = true) (cD : ∀ r j, D r = true → bit (m.get r) j = true → D j = true)
    {t : Nat} (ht : t < 512) (hn : namesT ops.toList o t = true) : e.get t = e'.get t := by
  by_cases hw : ∃ (r : Nat) (q : Oper), ops[r]? = some q ∧ q.dst = some t
  · obtain ⟨r, q, hr, hq⟩ := hw
    have only : ∀ (j : Nat) (q' : Oper), ops[j]? = some q' → q'.dst = some t → j = r := fun j q' hj hq' => by
      by_cases hjr : j = r
      · exact hjr
      · exact absurd hq' (PF.once r q j q' t hr hq hj hjr)
    have both : S r = false → D r = false → e.get t = e'.get t := fun h1 h2 => by
      rw [A.kept t ht fun j q' hj hq' => by rw [only j q' hj hq']; exact h1, B.kept t ht fun j q' hj hq' => by rw [only j q' hj hq']; exact h2]
    by_cases hri : r = i
    · subst hri; exact both hS hD
    · rcases PF.apart r q i o t hr hq hi (fun e => hri e.symm) hn with h | h
      · rw [A.wrote r q t hr hq ht (pS r h), B.wrote r q t hr hq ht (pD r h)]
        exact hV r (pS r h) (pD r h)
      · refine both ?_ ?_
        · cases hx : S r with
          | false => rfl
          | true => rw [cS r i hx h] at hS; cases hS
        · cases hx : D r with
          | false => rfl
          | true => rw [cD r i hx h] at hD; cases hD
  · rw [A.kept t ht fun j q hj hq => absurd ⟨j, q, hj, hq⟩ hw, B.kept t ht fun j q hj hq => absurd ⟨j, q, hj, hq⟩ hw]

theorem wanted_congr {l : List Oper} {o : Oper} {f f' : AF} (h : ∀ t, t < 512 → namesT l o t = true → f.env.get t = f'.env.get t) : wantedA l o f = wantedA l o f' := by
  have key : ∀ t want, guardOf l o = some (some (t, want)) → namesT l o t = true := fun t want hg => by
    unfold guardOf at hg
    split at hg
    · cases hg
    · rename_i j w hgu
      split at hg <;> try (cases hg; done)
      rename_i q hq
      split at hg <;> try (cases hg; done)
      rename_i u hu
      cases hg
      exact namesT_guard hgu hq hu
  unfold wantedA
  cases hg : guardOf l o with
  | none => rfl
  | some q =>
    cases q with
    | none => rfl
    | some tw =>
      obtain ⟨t, want⟩ := tw
      simp only
      cases hb : Nat.blt t 512 with
      | false => rfl
      | true => rw [h t (by rwa [Nat.blt_eq] at hb) (key t want hg)]

theorem operands_congr {l : List Oper} {o : Oper} {e e' : Env} (h : ∀ t, t < 512 → namesT l o t = true → e.get t = e'.get t) : ∀ x ∈ o.op.operands, opv e x = opv e' x := fun x hx =>
  opv_congr fun t ht h512 => h t h512 (namesT_op (ht ▸ hx))

/-! ### what is known of an operation that the plan has run, and the run has not -/

/-- How it will be when it comes. -/
def How (P : Program) (ops : Array Oper) (i : Nat) (o : Oper) (e : Env) (v : AV) (h : AH) (us : List Made) (rs : List Seen) : Prop :=
  (wantedA ops.toList o ⟨e, []⟩ = some false ∧ v = .undef ∧ ∀ u ∈ us, u.i ≠ i) ∨
  (wantedA ops.toList o ⟨e, []⟩ = some true ∧ (∀ u ∈ us, u.i ≠ i) ∧ ∀ h, opA P o.op e h = some (v, h)) ∨
  (wantedA ops.toList o ⟨e, []⟩ = some true ∧ (∀ u ∈ us, u.i ≠ i) ∧ kindOf P o.op = .read ∧ (⟨i, o.op, e, v⟩ : Seen) ∈ rs ∧ opA P o.op e h = some (v, h)) ∨
  (wantedA ops.toList o ⟨e, []⟩ = some true ∧ ∃ b mk id, makeA P o.op e = some (b, mk) ∧ v = mk id ∧ (⟨i, id, b⟩ : Made) ∈ us)

structure Stat (P : Program) (ops : Array Oper) (m : Masks) (n : Nat) (e0 : Env) (V : Nat → AV) (D : Nat → Bool) (h : AH) (us : List Made) (rs : List Seen) (i : Nat) (o : Oper) : Prop where
  notAct : kindOf P o.op ≠ .act
  dlt : ∀ d, o.dst = some d → d < n
  ev : ∃ e Di, Cur ops e0 V Di e ∧ (∀ j, Di j = true → D j = true) ∧ (∀ r j, Di r = true → bit (m.get r) j = true → Di j = true) ∧ (∀ j, bit (m.get i) j = true → Di j = true) ∧ Di i = false ∧ How P ops i o e (V i) h us rs

theorem Stat.mono {n : Nat} {e0 : Env} {V V' : Nat → AV} {D D' : Nat → Bool} {h h' : AH} {us us' : List Made} {rs rs' : List Seen} {i : Nat} {o : Oper} (s : Stat P ops m n e0 V D h us rs i o) (hi : D i = true)
    (hV : ∀ j, D j = true → V' j = V j) (hD : ∀ j, D j = true → D' j = true) (hus1 : ∀ u ∈ us', u ∈ us ∨ u.i ≠ i) (hus2 : ∀ u ∈ us, u.i = i → u ∈ us')
    (hrs : ∀ e, kindOf P o.op = .read → (⟨i, o.op, e, V i⟩ : Seen) ∈ rs → opA P o.op e h = some (V i, h) → (⟨i, o.op, e, V i⟩ : Seen) ∈ rs' ∧ opA P o.op e h' = some (V i, h')) : Stat P ops m n e0 V' D' h' us' rs' i o := by
  obtain ⟨e, Di, c1, c2, c3, c4, c5, c6⟩ := s.ev
  refine ⟨s.notAct, s.dlt, e, Di, c1.congr fun j hj => hV j (c2 j hj), fun j hj => hD j (c2 j hj), c3, c4, c5, ?_⟩
  rw [hV i hi]
  have no : (∀ u ∈ us, u.i ≠ i) → ∀ u ∈ us', u.i ≠ i := fun h u hu => by
    rcases hus1 u hu with h1 | h1
    · exact h u h1
    · exact h1
  rcases c6 with ⟨k1, k2, k3⟩ | ⟨k1, k2, k3⟩ | ⟨k1, k2, k3, k4, k5⟩ | ⟨k1, b, mk, id, k2, k3, k4⟩
  · exact .inl ⟨k1, k2, no k3⟩
  · exact .inr (.inl ⟨k1, no k2, k3⟩)
  · obtain ⟨q1, q2⟩ := hrs e k3 k4 k5
    exact .inr (.inr (.inl ⟨k1, no k2, k3, q1, q2⟩))
  · exact .inr (.inr (.inr ⟨k1, b, mk, id, k2, k3, hus2 _ k4 rfl⟩))

end Go.Ab
