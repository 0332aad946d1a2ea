import Derived.Test.YtoobfpnphhcaoaaGreatDoorT09
import Derived.LoopN
import Derived.Defers
set_option linter.unusedVariables false
set_option linter.unusedSimpArgs false
namespace Go.Ab
open Go.RowKit

variable {ω : Type} {P : Program} {n0 : Nat} {w0 : World} {ops : Array Oper} {m : Masks}

/-! ### the plan beside a run in another order -/

/-- S: what the run has done. D: what the plan has done. -/
structure Inv (P : Program) (n0 : Nat) (w0 : World) (ops : Array Oper) (m : Masks) (n : Nat) (e0 : Env) (ds : List (Nat × List AV)) (ρ0 : Pl) (h0 : AH) (ws : World)
    (S D : Nat → Bool) (V : Nat → AV) (e : Env) (h : AH) (us : List Made) (rs : List Seen) (eS : Env) (hS : AH) (ρ : Pl) (a : Act) (w : World) : Prop where
  sd : ∀ i, S i = true → D i = true
  closS : ∀ i j, S i = true → bit (m.get i) j = true → S j = true
  closD : ∀ i j, D i = true → bit (m.get i) j = true → D j = true
  curD : Cur ops e0 V D e
  curS : Cur ops e0 V S eS
  fr : FR ρ n ⟨eS, ds⟩ a
  hr : HR n0 w0 ρ hS w
  goes : Goes ρ0 h0 ws ρ hS w
  heap : HeapIs h us S hS
  made : ∀ u ∈ us, h.get u.id = none ∧ u.id.toNat < h.next.toNat ∧ h0.next.toNat ≤ u.id.toNat ∧ (S u.i = false → ρ u.id = none) ∧ D u.i = true
  apart : ∀ u ∈ us, ∀ v ∈ us, u.id = v.id ∨ u.i = v.i → u = v
  stat : ∀ i o, ops[i]? = some o → D i = true → S i = false → Stat P ops m n e0 V D h us rs i o

section
variable {n : Nat} {e0 : Env} {ds : List (Nat × List AV)} {ρ0 : Pl} {h0 : AH} {ws : World} {S D : Nat → Bool} {V : Nat → AV} {e : Env} {h : AH} {us : List Made} {rs : List Seen} {eS : Env} {hS : AH} {ρ : Pl} {a : Act} {w : World}

theorem Inv.sub (I : Inv P n0 w0 ops m n e0 ds ρ0 h0 ws S D V e h us rs eS hS ρ a w) : Sub h hS := fun j b hj => (I.heap.get j b).2 (.inl hj)

/-- The plan goes on by an operation that is no act. -/
theorem Inv.early (PF : PlanFacts P ops m) (hn : n ≤ 512) (I : Inv P n0 w0 ops m n e0 ds ρ0 h0 ws S D V e h us rs eS hS ρ a w) {i : Nat} {o : Oper} (hi : ops[i]? = some o) (hD : D i = false) (hpre : ∀ j, bit (m.get i) j = true → D j = true)
    {D' : Nat → Bool} (hD' : ∀ j, D' j = (D j || decide (j = i))) (hnot : kindOf P o.op ≠ .act) (hdlt : ∀ d, o.dst = some d → d < n) (v : AV) {h' hS' : AH} {us' : List Made} {rs' : List Seen} (hrs : ∀ r ∈ rs, r ∈ rs')
    (hg : ∀ j, h'.get j = h.get j) (hnx : h.next.toNat ≤ h'.next.toNat) (hgS : ∀ j, hS'.get j = hS.get j) (hnS : hS'.next = h'.next) (hus : us' = us ∨ ∃ id b, us' = ⟨i, id, b⟩ :: us ∧ id = h.next ∧ id.toNat < h'.next.toNat)
    (hw : How P ops i o e v h' us' rs') : Inv P n0 w0 ops m n e0 ds ρ0 h0 ws S D' (fun j => if j = i then v else V j) (putE e o.dst v) h' us' rs' eS hS' ρ a w := by
  have hSi : S i = false := by
    cases hx : S i with
    | false => rfl
    | true => rw [I.sd i hx] at hD; cases hD
  have hVD : ∀ j, D j = true → (fun j => if j = i then v else V j) j = V j := fun j hj => by
    have : j ≠ i := fun e => by rw [e, hD] at hj; cases hj
    simp [this]
  have hDD : ∀ j, D j = true → D' j = true := fun j hj => by rw [hD', hj]; rfl
  have hnext : I.heap.next = I.heap.next := rfl
  have hfree : ρ h.next = none := I.hr.fresh _ (by rw [I.heap.next]; exact Nat.le_refl _)
  have hnone : h.get h.next = none := by
    cases hx : h.get h.next with
    | none => rfl
    | some b =>
      obtain ⟨pl, h1, _⟩ := I.hr.blocks _ _ (I.sub _ _ hx)
      rw [hfree] at h1; cases h1
  refine ⟨fun j hj => hDD j (I.sd j hj), I.closS, fun j k hj hk => ?_, I.curD.step PF hi hVD (by simp) hD' (fun d hd => Nat.lt_of_lt_of_le (hdlt d hd) hn), I.curS.congr fun j hj => hVD j (I.sd j hj), I.fr, ?_, ?_, ?_, ?_, ?_, ?_⟩
  · rw [hD'] at hj
    simp only [Bool.or_eq_true, decide_eq_true_eq] at hj
    rcases hj with hj | rfl
    · exact hDD _ (I.closD j k hj hk)
    · exact hDD _ (hpre k hk)
  · refine ⟨fun j b hj => I.hr.blocks j b (by rw [← hgS]; exact hj), fun j k bj bk pj pk hj hk => I.hr.inj j k bj bk pj pk (by rw [← hgS]; exact hj) (by rw [← hgS]; exact hk), fun j hj => I.hr.fresh j ?_, I.hr.lt, I.hr.below, I.hr.base⟩
    rw [I.heap.next]; rw [hnS] at hj; omega
  · refine ⟨I.goes.ext, I.goes.size, ?_, I.goes.frame, fun j b hj => I.goes.img j b (by rw [← hgS]; exact hj), I.goes.grows⟩
    have := I.goes.next
    rw [I.heap.next] at this
    rw [hnS]; omega
  · refine ⟨hnS, fun j b => ?_⟩
    rw [hgS, hg, I.heap.get]
    rcases hus with rfl | ⟨id, b0, rfl, _, _⟩
    · exact Iff.rfl
    · constructor
      · rintro (k | ⟨u, hu, k⟩)
        · exact .inl k
        · exact .inr ⟨u, List.mem_cons_of_mem _ hu, k⟩
      · rintro (k | ⟨u, hu, k1, k2⟩)
        · exact .inl k
        · rcases List.mem_cons.1 hu with rfl | hu
          · rw [hSi] at k1; cases k1
          · exact .inr ⟨u, hu, k1, k2⟩
  · intro u hu
    have old : u ∈ us → h'.get u.id = none ∧ u.id.toNat < h'.next.toNat ∧ h0.next.toNat ≤ u.id.toNat ∧ (S u.i = false → ρ u.id = none) ∧ D' u.i = true := fun hu => by
      obtain ⟨k1, k2, k3, k4, k5⟩ := I.made u hu
      exact ⟨by rw [hg]; exact k1, by omega, k3, k4, hDD _ k5⟩
    rcases hus with rfl | ⟨id, b0, rfl, hid, hlt⟩
    · exact old hu
    · rcases List.mem_cons.1 hu with rfl | hu
      · subst hid
        refine ⟨by rw [hg]; exact hnone, hlt, ?_, fun _ => hfree, by rw [hD']; simp⟩
        have := I.goes.next
        rw [I.heap.next] at this
        exact this
      · exact old hu
  · rcases hus with rfl | ⟨id, b0, rfl, hid, hlt⟩
    · exact I.apart
    · have key : ∀ u ∈ us, ¬ (u.id = id ∨ u.i = i) := fun u hu hc => by
        obtain ⟨_, k2, _, _, k5⟩ := I.made u hu
        rcases hc with hc | hc
        · rw [hc, hid] at k2; omega
        · rw [hc, hD] at k5; cases k5
      intro u hu x hx hc
      rcases List.mem_cons.1 hu with rfl | hu
      · rcases List.mem_cons.1 hx with rfl | hx
        · rfl
        · exact absurd (by rcases hc with hc | hc; exact .inl hc.symm; exact .inr hc.symm) (key x hx)
      · rcases List.mem_cons.1 hx with rfl | hx
        · exact absurd hc (key u hu)
        · exact I.apart u hu x hx hc
  · intro j q hj hDj hSj
    rw [hD'] at hDj
    by_cases hji : j = i
    · subst hji
      rw [hi] at hj; cases hj
      refine ⟨hnot, hdlt, e, D, I.curD.congr hVD, hDD, I.closD, hpre, hD, ?_⟩
      simp only [if_true]; exact hw
    · have hDj' : D j = true := by simpa [hji] using hDj
      refine (I.stat j q hj hDj' hSj).mono hDj' hVD hDD (fun u hu => ?_) (fun u hu _ => ?_) fun e1 hk hr ho => ⟨hrs _ hr, ?_⟩
      · rcases hus with rfl | ⟨id, b0, rfl, _, _⟩
        · exact .inl hu
        · rcases List.mem_cons.1 hu with rfl | hu
          · exact .inr (fun e => hji e.symm)
          · exact .inl hu
      · rcases hus with rfl | ⟨id, b0, rfl, _, _⟩
        · exact hu
        · exact List.mem_cons_of_mem _ hu
      · exact (read_mono hk ho).2 h' fun x b hx => by rw [hg]; exact hx

/-- The run goes on by an operation that the plan has done. -/
theorem Inv.list (PF : PlanFacts P ops m) (hn : n ≤ 512) (I : Inv P n0 w0 ops m n e0 ds ρ0 h0 ws S D V e h us rs eS hS ρ a w) {j : Nat} {o : Oper} (hj : ops[j]? = some o) (hDj : D j = true) (hpre : ∀ k, bit (m.get j) k = true → S k = true)
    {S' : Nat → Bool} (hS' : ∀ k, S' k = (S k || decide (k = j))) (hdlt : ∀ d, o.dst = some d → d < n) {ρ' : Pl} {x : Value} {hS2 : AH} {w' : World} (ext : Ext ρ ρ') (hx : VR ρ' (V j) x) (hr' : HR n0 w0 ρ' hS2 w') (goes' : Goes ρ0 h0 ws ρ' hS2 w')
    (heap' : HeapIs h us S' hS2) (made' : ∀ u ∈ us, S' u.i = false → ρ' u.id = none) : Inv P n0 w0 ops m n e0 ds ρ0 h0 ws S' D V e h us rs (putE eS o.dst (V j)) hS2 ρ' (a.put o.dst x) w' := by
  have hSS : ∀ k, S k = true → S' k = true := fun k hk => by rw [hS', hk]; rfl
  have back : ∀ k, S' k = false → S k = false := fun k hk => by
    rw [hS', Bool.or_eq_false_iff] at hk; exact hk.1
  refine ⟨fun k hk => ?_, fun i k hi hk => ?_, I.closD, I.curD, I.curS.step PF hj (fun _ _ => rfl) rfl hS' (fun d hd => Nat.lt_of_lt_of_le (hdlt d hd) hn), FR.putE hn (I.fr.mono ext) hdlt hx, hr', goes', heap', ?_, I.apart, fun i q hi hDi hSi => I.stat i q hi hDi (back i hSi)⟩
  · rw [hS'] at hk
    simp only [Bool.or_eq_true, decide_eq_true_eq] at hk
    rcases hk with hk | rfl
    · exact I.sd k hk
    · exact hDj
  · rw [hS'] at hi
    simp only [Bool.or_eq_true, decide_eq_true_eq] at hi
    rcases hi with hi | rfl
    · exact hSS _ (I.closS i k hi hk)
    · exact hSS _ (hpre k hk)
  · intro u hu
    obtain ⟨k1, k2, k3, _, k5⟩ := I.made u hu
    exact ⟨k1, k2, k3, made' u hu, k5⟩

end

/-- The plan goes on till its next act. -/
theorem advance {call : CallH ω} {n : Nat} (hn : n ≤ 512) (PF : PlanFacts P ops m) {e0 : Env} {ds : List (Nat × List AV)} {ρ0 : Pl} {h0 : AH} {ws : World} {S : Nat → Bool} {eS : Env} {ρ : Pl} {a : Act} {w : World} {k : AF → AH → Option ω} {out : ω} :
    ∀ (ss : List Step) (done : Nat) (V : Nat → AV) (e : Env) (h : AH) (us : List Made) (rs : List Seen) (hS : AH), orderOk ops.size ss done = true → (∀ s ∈ ss, StepOk P ops m s) → stepsA P call n ops.toList ss ⟨e, ds⟩ h us rs k = some out →
      Inv P n0 w0 ops m n e0 ds ρ0 h0 ws S (bit done) V e h us rs eS hS ρ a w →
      ∃ ss' done' V' e' h' us' rs' hS', (ss' = [] ∨ ∃ s l, ss' = s :: l ∧ s.kind = .act) ∧ orderOk ops.size ss' done' = true ∧ (∀ s ∈ ss', StepOk P ops m s) ∧ stepsA P call n ops.toList ss' ⟨e', ds⟩ h' us' rs' k = some out ∧
        Inv P n0 w0 ops m n e0 ds ρ0 h0 ws S (bit done') V' e' h' us' rs' eS hS' ρ a w
  | [], done, V, e, h, us, rs, hS, ho, hs, hk, I => ⟨[], done, V, e, h, us, rs, hS, .inl rfl, ho, hs, hk, I⟩
  | s :: ss, done, V, e, h, us, rs, hS, ho, hs, hk, I => by
    have hok := hs s List.mem_cons_self
    by_cases hact : s.kind = .act
    · exact ⟨s :: ss, done, V, e, h, us, rs, hS, .inr ⟨s, ss, rfl, hact⟩, ho, hs, hk, I⟩
    · have hisact : isAct s.kind = false := by
        cases hx : s.kind <;> first | rfl | exact absurd hx hact
      have ⟨hD, hpre, ho'⟩ : bit done s.i = false ∧ subM s.pre done = true ∧ orderOk ops.size ss (withBit done s.i) = true := by
        simp only [orderOk] at ho
        split at ho
        · rename_i h1 h2
          rw [hisact] at ho
          exact ⟨h1, h2, ho⟩
        · cases ho
      have hpre' : ∀ j, bit (m.get s.i) j = true → bit done j = true := by rw [subM_iff, hok.pre] at hpre; exact hpre
      have hs' : ∀ x ∈ ss, StepOk P ops m x := fun x hx => hs x (List.mem_cons_of_mem _ hx)
      have hnot : kindOf P s.op.op ≠ .act := by rw [← hok.kind]; exact hact
      have hD' : ∀ j, bit (withBit done s.i) j = (bit done j || decide (j = s.i)) := fun j => bit_with done s.i j
      have nomade : ∀ u ∈ us, u.i ≠ s.i := fun u hu e => by
        have := (I.made u hu).2.2.2.2
        rw [e, hD] at this; cases this
      have wcongr : wantedA ops.toList s.op ⟨e, []⟩ = wantedA ops.toList s.op ⟨e, ds⟩ := wanted_congr fun _ _ _ => rfl
      simp only [stepsA] at hk
      split at hk
      · cases hk
      · rename_i hw
        obtain ⟨hd, hk'⟩ := AF.put_some hk
        exact advance hn PF ss _ _ _ h us rs hS ho' hs' hk' (I.early PF hn hok.op hD hpre' hD' hnot hd .undef (fun _ h => h) (fun _ => rfl) (Nat.le_refl _) (fun _ => rfl) I.heap.next (.inl rfl)
          (.inl ⟨by rw [wcongr]; exact hw, rfl, nomade⟩))
      · rename_i hw
        split at hk
        · rename_i hx; exact absurd hx hact
        · rename_i hkind
          split at hk <;> try (cases hk; done)
          rename_i v h2 hop
          obtain ⟨hd, hk'⟩ := AF.put_some hk
          obtain ⟨rfl, hmono⟩ := read_mono (by rw [← hok.kind]; exact hkind) hop
          exact advance hn PF ss _ _ _ h2 us _ hS ho' hs' hk' (I.early PF hn hok.op hD hpre' hD' hnot hd v (fun _ h => List.mem_cons_of_mem _ h) (fun _ => rfl) (Nat.le_refl _) (fun _ => rfl) I.heap.next (.inl rfl)
            (.inr (.inr (.inl ⟨by rw [wcongr]; exact hw, nomade, by rw [← hok.kind]; exact hkind, List.mem_cons_self, hop⟩))))
        · rename_i hkind
          split at hk <;> try (cases hk; done)
          rename_i v h2 hop
          obtain ⟨hd, hk'⟩ := AF.put_some hk
          obtain ⟨rfl, hfree⟩ := pure_free (by rw [← hok.kind]; exact hkind) hop
          exact advance hn PF ss _ _ _ h2 us rs hS ho' hs' hk' (I.early PF hn hok.op hD hpre' hD' hnot hd v (fun _ h => h) (fun _ => rfl) (Nat.le_refl _) (fun _ => rfl) I.heap.next (.inl rfl)
            (.inr (.inl ⟨by rw [wcongr]; exact hw, nomade, hfree⟩)))
        · split at hk <;> try (cases hk; done)
          rename_i b mk hm
          split at hk <;> try (cases hk; done)
          rename_i id h2 hsp
          obtain ⟨hd, hk'⟩ := AF.put_some hk
          obtain ⟨rfl, hnx, hg⟩ := spare_spec hsp
          exact advance hn PF ss _ _ _ h2 _ rs ⟨hS.tree, h2.next⟩ ho' hs' hk' (I.early PF hn hok.op hD hpre' hD' hnot hd (mk h.next) (fun _ h => h) hg (by omega) (fun _ => rfl) rfl (.inr ⟨h.next, b, rfl, rfl, by omega⟩)
            (.inr (.inr (.inr ⟨by rw [wcongr]; exact hw, b, mk, h.next, hm, rfl, List.mem_cons_self⟩))))

end Go.Ab

namespace Go.Ab
open Go.RowKit

variable {ω : Type} {P : Program} {n0 : Nat} {w0 : World} {ops : Array Oper} {m : Masks}

theorem getD_set {listed : Array Bool} {j : Nat} (hj : j < listed.size) (k : Nat) : (listed.setIfInBounds j true).getD k false = (listed.getD k false || decide (k = j)) := by
  by_cases hk : k = j
  · subst hk; simp [hj]
  · rw [getD_set_ne false (Ne.symm hk)]; simp [hk]

theorem count_set {listed : Array Bool} {j : Nat} (hj : j < listed.size) (hf : listed.getD j false = false) : (listed.setIfInBounds j true).toList.count true = listed.toList.count true + 1 := by
  have hl : j < listed.toList.length := by simpa using hj
  have hf' : listed.toList[j] = false := by
    have : listed.getD j false = listed[j] := by simp [hj]
    rw [this] at hf
    simpa using hf
  rw [Array.toList_setIfInBounds, List.count_set hl, hf']
  simp

theorem count_all {listed : Array Bool} (h : listed.toList.count true = listed.size) (j : Nat) (hj : j < listed.size) : listed.getD j false = true := by
  have h1 : listed.toList.count true = listed.toList.length := by simpa using h
  have h2 := List.count_eq_length.1 h1 listed[j] (by simp)
  simp [hj, ← h2]

section
variable {call : CallH ω} {n : Nat} {e0 : Env} {ds : List (Nat × List AV)} {ρ0 : Pl} {h0 : AH} {ws : World} {Q : Exit → Act → World → Prop} {k : AF → AH → Option ω} {out : ω}

/-- All is done. -/
theorem any_done (hn : n ≤ 512) (hQ : ∀ a' w', Cont n0 w0 n ρ0 h0 ws k out a' w' → Q .normal a' w') {S : Nat → Bool} {ss : List Step} {done : Nat} {V : Nat → AV} {e : Env} {h : AH} {us : List Made} {rs : List Seen} {eS : Env} {hS : AH} {ρ : Pl} {a : Act} {w : World}
    (hss : ss = [] ∨ ∃ s l, ss = s :: l ∧ s.kind = .act) (ho : orderOk ops.size ss done = true) (hs : ∀ s ∈ ss, StepOk P ops m s) (hk : stepsA P call n ops.toList ss ⟨e, ds⟩ h us rs k = some out)
    (I : Inv P n0 w0 ops m n e0 ds ρ0 h0 ws S (bit done) V e h us rs eS hS ρ a w) (hall : ∀ i, i < ops.size → S i = true) : Q .normal a w := by
  have lt : ∀ i (o : Oper), ops[i]? = some o → i < ops.size := fun i o h => (Array.getElem?_eq_some_iff.1 h).1
  rcases hss with rfl | ⟨s, l, rfl, _⟩
  · simp only [stepsA] at hk
    have same : ∀ t, t < 512 → e.get t = eS.get t := fun t ht => by
      by_cases hw : ∃ (r : Nat) (q : Oper), ops[r]? = some q ∧ q.dst = some t
      · obtain ⟨r, q, hr, hq⟩ := hw
        have hSr := hall r (lt r q hr)
        rw [I.curD.wrote r q t hr hq ht (I.sd r hSr), I.curS.wrote r q t hr hq ht hSr]
      · rw [I.curD.kept t ht fun j q hj hq => absurd ⟨j, q, hj, hq⟩ hw, I.curS.kept t ht fun j q hj hq => absurd ⟨j, q, hj, hq⟩ hw]
    have hsub : Sub (commitAll us h) hS := fun j b hj => by
      rw [I.heap.get]
      rcases commitAll_get hj with h1 | ⟨u, hu, h1⟩
      · exact .inl h1
      · have hu2 := (I.made u hu).2.2.2.2
        have hun : u.i < ops.size := by
          have : orderOk ops.size [] done = true := ho
          simp only [orderOk] at this
          have hd := Nat.eq_of_beq_eq_true this
          have : done < 2 ^ ops.size := by omega
          exact bit_lt this hu2
        exact .inr ⟨u, hu, hall _ hun, h1⟩
    have hnx : (commitAll us h).next = hS.next := by rw [commitAll_next, I.heap.next]
    refine hQ a w ⟨⟨e, ds⟩, commitAll us h, ρ, hk, ⟨⟨I.fr.env.size, fun t ht => ?_, I.fr.env.glob⟩, I.fr.ds⟩, I.goes.sub hsub hnx, I.hr.sub (fun j b hj => hsub j b hj) hnx⟩
    have := I.fr.env.vals t ht
    rw [show (⟨e, ds⟩ : AF).env.get t = e.get t from rfl, same t (by omega)]
    exact this
  · exfalso
    have hok := hs s List.mem_cons_self
    simp only [orderOk] at ho
    split at ho
    · rename_i h1 _
      rw [I.sd _ (hall _ (lt _ _ hok.op))] at h1
      cases h1
    · cases ho

theorem all_listed (PF : PlanFacts P ops m) {listed : Array Bool} (hsz : listed.size = ops.size) (hr : Region.ready .any ops listed = []) : ∀ i, i < ops.size → listed.getD i false = true := fun i => by
  induction i using Nat.strongRecOn with
  | _ i ih =>
    intro hi
    have hi' : i < listed.size := by omega
    cases hx : listed.getD i false with
    | true => rfl
    | false =>
      exfalso
      have : i ∈ Region.ready .any ops listed := mem_ready.2 ⟨by
          have h1 : listed.getD i true = listed[i] := by simp [hi']
          have h2 : listed.getD i false = listed[i] := by simp [hi']
          rw [h1, ← h2, hx], ops[i], by simp, fun e he hb => ?_⟩
      · rw [hr] at this; cases this
      · have h1 := PF.edge i ops[i] e (by simp) he hb
        have h2 := PF.lt i ops[i] e.on (by simp) h1
        exact ih e.on h2 (by omega)

theorem orderOk_has {n : Nat} : ∀ {ss : List Step} {done : Nat}, orderOk n ss done = true → ∀ j, j < n → bit done j = true ∨ ∃ s ∈ ss, s.i = j
  | [], done, h, j, hj => by
    simp only [orderOk] at h
    have hd := Nat.eq_of_beq_eq_true h
    have : done = 2 ^ n - 1 := by omega
    left
    rw [bit_eq, this, Nat.testBit_two_pow_sub_one]
    simpa using hj
  | s :: ss, done, h, j, hj => by
    have ho' : orderOk n ss (withBit done s.i) = true := by
      simp only [orderOk] at h
      split at h
      · split at h
        · split at h
          · exact h
          · cases h
        · exact h
      · cases h
    rcases orderOk_has ho' j hj with h1 | ⟨x, hx, h1⟩
    · rw [bit_with] at h1
      simp only [Bool.or_eq_true, decide_eq_true_eq] at h1
      rcases h1 with h1 | h1
      · exact .inl h1
      · exact .inr ⟨s, List.mem_cons_self, h1.symm⟩
    · exact .inr ⟨x, List.mem_cons_of_mem _ hx, h1⟩

theorem waits_spec {w done : Nat} : ∀ {ss : List Step}, waits w done ss = true → ∀ s ∈ ss, (s.kind = .act → bit s.pre w = true) ∧ (s.kind ≠ .act → subM s.pre done = false)
  | [], _, s, hs => by simp at hs
  | q :: ss, h, s, hs => by
    simp only [waits] at h
    split at h
    · rename_i hq
      split at h <;> try (cases h; done)
      rename_i hb
      rcases List.mem_cons.1 hs with rfl | hs
      · refine ⟨fun _ => hb, fun hne => ?_⟩
        cases hx : s.kind <;> rw [hx] at hq hne <;> first | exact absurd rfl hne | cases hq
      · exact waits_spec h s hs
    · rename_i hq
      split at h <;> try (cases h; done)
      rename_i hb
      rcases List.mem_cons.1 hs with rfl | hs
      · refine ⟨fun he => ?_, fun _ => hb⟩
        rw [he] at hq; cases hq
      · exact waits_spec h s hs

end

end Go.Ab

namespace Go.Ab
open Go.RowKit

variable {ω : Type} {P : Program} {n0 : Nat} {w0 : World} {ops : Array Oper} {m : Masks}
variable {call : CallH ω} {n : Nat} {e0 : Env} {ds : List (Nat × List AV)} {ρ0 : Pl} {h0 : AH} {ws : World} {Q : Exit → Act → World → Prop} {k : AF → AH → Option ω} {out : ω}

theorem wpOp_of {o : Oper} {j : Nat} {a : Act} {w : World} {K : Act → World → Prop} (hj : ops[j]? = some o) (h1 : Region.wanted o (yielded ops a.tmps) = true → o.wp P a w K Q) (h2 : Region.wanted o (yielded ops a.tmps) = false → K (a.put o.dst Go.undef) w) : wpOp P ops Q j K a w := by
  unfold wpOp
  rw [hj]
  simp only
  cases hw : Region.wanted o (yielded ops a.tmps) with
  | true => rw [if_pos rfl]; exact .inl (h1 hw)
  | false => rw [if_neg (by simp)]; exact h2 hw

/-- The run does an operation that the plan has done. -/
theorem list_step (PF : PlanFacts P ops m) (hn : n ≤ 512) {S D S' : Nat → Bool} {V : Nat → AV} {e : Env} {h : AH} {us : List Made} {rs : List Seen} {eS : Env} {hS : AH} {ρ : Pl} {a : Act} {w : World}
    (I : Inv P n0 w0 ops m n e0 ds ρ0 h0 ws S D V e h us rs eS hS ρ a w) {j : Nat} {o : Oper} (hj : ops[j]? = some o) (hDj : D j = true) (hSj : S j = false) (hpre : ∀ i, bit (m.get j) i = true → S i = true)
    (hS' : ∀ i, S' i = (S i || decide (i = j))) {K : Act → World → Prop} (hK : ∀ eS' hS2 ρ' a' w', Inv P n0 w0 ops m n e0 ds ρ0 h0 ws S' D V e h us rs eS' hS2 ρ' a' w' → K a' w') : wpOp P ops Q j K a w := by
  have st := I.stat j o hj hDj hSj
  obtain ⟨ei, Di, c1, c2, c3, c4, c5, c6⟩ := st.ev
  have agree : ∀ t, t < 512 → namesT ops.toList o t = true → eS.get t = ei.get t := fun t ht hnm =>
    I.curS.agree PF c1 (fun _ _ _ => rfl) hj hSj c5 hpre c4 I.closS c3 ht hnm
  have hops := operands_congr (l := ops.toList) (o := o) agree
  have hwant : wantedA ops.toList o ⟨eS, ds⟩ = wantedA ops.toList o ⟨ei, []⟩ := wanted_congr agree
  have keepHeap : (∀ u ∈ us, u.i ≠ j) → HeapIs h us S' hS := fun hno => ⟨I.heap.next, fun x b => by
    rw [I.heap.get]
    constructor
    · rintro (q | ⟨u, hu, q1, q2⟩)
      · exact .inl q
      · exact .inr ⟨u, hu, by rw [hS', q1]; rfl, q2⟩
    · rintro (q | ⟨u, hu, q1, q2⟩)
      · exact .inl q
      · refine .inr ⟨u, hu, ?_, q2⟩
        rw [hS'] at q1
        simpa [hno u hu] using q1⟩
  have back : ∀ i, S' i = false → S i = false := fun i hi => by rw [hS', Bool.or_eq_false_iff] at hi; exact hi.1
  rcases c6 with ⟨k1, k2, k3⟩ | ⟨k1, k2, k3⟩ | ⟨k1, k2, k3, k4, k5⟩ | ⟨k1, b, mk, id, k2, k3, k4⟩
  · have hw := wantedA_sound I.fr (hwant.trans k1)
    refine wpOp_of hj (fun h1 => by rw [hw] at h1; cases h1) fun _ => ?_
    refine hK _ _ _ _ _ (I.list PF hn hj hDj hpre hS' st.dlt (.refl ρ) (by rw [k2]; exact .undef ρ) I.hr I.goes (keepHeap k3) fun u hu hs => (I.made u hu).2.2.2.1 (back _ hs))
  -- a value that hangs on nothing that the run has turned
  case' inr.inl =>
    have hop : opA P o.op eS hS = some (V j, hS) := by rw [opA_congr hS hops]; exact k3 hS
    have hno := k2
  case' inr.inr.inl =>
    have hop : opA P o.op eS hS = some (V j, hS) := by rw [opA_congr hS hops]; exact (read_mono k3 k5).2 hS I.sub
    have hno := k2
  case inr.inl | inr.inr.inl =>
    have hw := wantedA_sound I.fr (hwant.trans k1)
    refine wpOp_of hj (fun _ => ?_) fun h1 => by rw [hw] at h1; cases h1
    obtain ⟨nx, x, w', ρ', h1, h2, h3, h4, h5⟩ := opA_sound I.hr I.fr.env hop
    have hc : K (a.put o.dst x) w' := hK _ _ _ _ _ (I.list PF hn hj hDj hpre hS' st.dlt h4.ext h3 h5 (I.goes.trans h4) (keepHeap hno) fun u hu hs => by
      obtain ⟨_, q2, _, q4, _⟩ := I.made u hu
      cases hx : ρ' u.id with
      | none => rfl
      | some pl =>
        rcases h4.grows _ _ hx with h6 | h6
        · rw [q4 (back _ hs)] at h6; cases h6
        · rw [I.heap.next] at h6; omega)
    unfold Oper.wp
    rw [h1]
    rcases h2 with rfl | ⟨rfl, rfl⟩
    · exact hc
    · exact hc
  · have hw := wantedA_sound I.fr (hwant.trans k1)
    refine wpOp_of hj (fun _ => ?_) fun h1 => by rw [hw] at h1; cases h1
    have hm : makeA P o.op eS = some (b, mk) := by rw [makeA_congr hops]; exact k2
    obtain ⟨x, wd, ob, sh, ce, hwd, hrun, hown, hM⟩ := makeA_sound (w := w) I.fr.env hm
    obtain ⟨q1, q2, q3, q4, q5⟩ := I.made _ k4
    have hfree : ρ id = none := q4 hSj
    have hext : Ext ρ (ρ.with id ⟨w.heap.size, sh, ce⟩) := Pl.with_ext _ hfree
    obtain ⟨m1, m2⟩ := hM (ρ.with id ⟨w.heap.size, sh, ce⟩) id hext (Pl.with_same ρ id _)
    have hgets : ∀ i bi, (hS.set id (some b)).get i = some bi → (i = id ∧ bi = b) ∨ (i ≠ id ∧ hS.get i = some bi) := fun i bi hi => by
      rw [AH.get_set] at hi
      split at hi
      · rename_i e; cases hi; exact .inl ⟨e, rfl⟩
      · rename_i e; exact .inr ⟨e, hi⟩
    obtain ⟨g1, g2⟩ := HR.made I.hr I.goes hwd ⟨w.heap.size, sh, ce⟩ rfl hfree (by rw [I.heap.next]; exact q2) q3 (AH.next_set hS id (some b)) hgets m2
    have hheap : HeapIs h us S' (hS.set id (some b)) := by
      refine ⟨by rw [AH.next_set]; exact I.heap.next, fun i bi => ?_⟩
      rw [AH.get_set]
      by_cases hi : i = id
      · rw [if_pos hi]
        constructor
        · intro e1; cases e1; exact .inr ⟨_, k4, by rw [hS']; simp, hi.symm, rfl⟩
        · rintro (e1 | ⟨u, hu, _, u2, u3⟩)
          · rw [hi, q1] at e1; cases e1
          · have := I.apart u hu _ k4 (.inl (u2.trans hi))
            subst this; rw [← u3]
      · rw [if_neg hi, I.heap.get]
        constructor
        · rintro (e1 | ⟨u, hu, u1, u2⟩)
          · exact .inl e1
          · exact .inr ⟨u, hu, by rw [hS', u1]; rfl, u2⟩
        · rintro (e1 | ⟨u, hu, u1, u2, u3⟩)
          · exact .inl e1
          · refine .inr ⟨u, hu, ?_, u2, u3⟩
            have hne : u.i ≠ j := fun e1 => by
              have := I.apart u hu _ k4 (.inr e1)
              subst this; exact hi u2.symm
            rw [hS'] at u1
            simpa [hne] using u1
    have hc : K (a.put o.dst x) (wd.alloc ob) := hK _ _ _ _ _ (I.list PF hn hj hDj hpre hS' st.dlt hext (by rw [k3]; exact m1) g1 g2 hheap fun u hu hs => by
      have hne : u.id ≠ id := fun e1 => by
        have := I.apart u hu _ k4 (.inl e1)
        subst this
        rw [hS'] at hs; simp at hs
      cases hx : (ρ.with id ⟨w.heap.size, sh, ce⟩) u.id with
      | none => rfl
      | some pl =>
        rcases Pl.with_inv _ _ hx with h6 | h6
        · exact absurd h6 hne
        · rw [(I.made u hu).2.2.2.1 (back _ hs)] at h6; cases h6)
    unfold Oper.wp
    rw [hrun]
    exact hc

end Go.Ab

namespace Go.Ab
open Go.RowKit

variable {ω : Type} {P : Program} {n0 : Nat} {w0 : World} {ops : Array Oper} {m : Masks}
variable {call : CallH ω} {n : Nat} {e0 : Env} {ds : List (Nat × List AV)} {ρ0 : Pl} {h0 : AH} {ws : World} {Q : Exit → Act → World → Prop} {k : AF → AH → Option ω} {out : ω}

/-- An act: the plan and the run do it together. -/
theorem Inv.act (PF : PlanFacts P ops m) (hn : n ≤ 512) {S D S' D' : Nat → Bool} {V : Nat → AV} {e : Env} {h h' : AH} {us us' : List Made} {rs rs' : List Seen} {eS : Env} {hS hS2 : AH} {ρ ρ' : Pl} {a : Act} {w w' : World}
    (I : Inv P n0 w0 ops m n e0 ds ρ0 h0 ws S D V e h us rs eS hS ρ a w) {j : Nat} {o : Oper} (hj : ops[j]? = some o) (hDj : D j = false) (preS : ∀ i, bit (m.get j) i = true → S i = true)
    (hS' : ∀ i, S' i = (S i || decide (i = j))) (hD' : ∀ i, D' i = (D i || decide (i = j))) (hdlt : ∀ d, o.dst = some d → d < n) {v : AV} {x : Value} (ext : Ext ρ ρ') (hx : VR ρ' v x) (hr' : HR n0 w0 ρ' hS2 w') (goes' : Goes ρ0 h0 ws ρ' hS2 w')
    (heap' : HeapIs h' us' S' hS2) (hus : ∀ u ∈ us', u ∈ us) (hmade : ∀ u ∈ us', h'.get u.id = none ∧ u.id.toNat < h'.next.toNat ∧ (S' u.i = false → ρ' u.id = none))
    (hstat : ∀ i q, ops[i]? = some q → D i = true → S i = false → (∀ u ∈ us, u.i = i → u ∈ us') ∧ ∀ e, kindOf P q.op = .read → (⟨i, q.op, e, V i⟩ : Seen) ∈ rs → opA P q.op e h = some (V i, h) → (⟨i, q.op, e, V i⟩ : Seen) ∈ rs' ∧ opA P q.op e h' = some (V i, h')) :
    Inv P n0 w0 ops m n e0 ds ρ0 h0 ws S' D' (fun i => if i = j then v else V i) (putE e o.dst v) h' us' rs' (putE eS o.dst v) hS2 ρ' (a.put o.dst x) w' := by
  have hSS : ∀ i, S i = true → S' i = true := fun i hi => by rw [hS', hi]; rfl
  have hDD : ∀ i, D i = true → D' i = true := fun i hi => by rw [hD', hi]; rfl
  have hVD : ∀ i, D i = true → (fun i => if i = j then v else V i) i = V i := fun i hi => by
    have : i ≠ j := fun e => by rw [e, hDj] at hi; cases hi
    simp [this]
  have hlt : ∀ d, o.dst = some d → d < 512 := fun d hd => Nat.lt_of_lt_of_le (hdlt d hd) hn
  refine ⟨fun i hi => ?_, fun i q hi hq => ?_, fun i q hi hq => ?_, I.curD.step PF hj hVD (by simp) hD' hlt, I.curS.step PF hj (fun i hi => hVD i (I.sd i hi)) (by simp) hS' hlt, FR.putE hn (I.fr.mono ext) hdlt hx, hr', goes', heap', fun u hu => ?_,
    fun u hu y hy => I.apart u (hus u hu) y (hus y hy), fun i q hi hDi hSi => ?_⟩
  · rw [hS'] at hi
    rw [hD']
    simp only [Bool.or_eq_true, decide_eq_true_eq] at hi ⊢
    rcases hi with hi | hi
    · exact .inl (I.sd i hi)
    · exact .inr hi
  · rw [hS'] at hi
    simp only [Bool.or_eq_true, decide_eq_true_eq] at hi
    rcases hi with hi | rfl
    · exact hSS _ (I.closS i q hi hq)
    · exact hSS _ (preS q hq)
  · rw [hD'] at hi
    simp only [Bool.or_eq_true, decide_eq_true_eq] at hi
    rcases hi with hi | rfl
    · exact hDD _ (I.closD i q hi hq)
    · exact hDD _ (I.sd _ (preS q hq))
  · obtain ⟨h1, h2, h3⟩ := hmade u hu
    obtain ⟨_, _, k3, _, k5⟩ := I.made u (hus u hu)
    exact ⟨h1, h2, k3, h3, hDD _ k5⟩
  · rw [hS', Bool.or_eq_false_iff] at hSi
    have hij : i ≠ j := by simpa using hSi.2
    have hDi' : D i = true := by rw [hD'] at hDi; simpa [hij] using hDi
    obtain ⟨g1, g2⟩ := hstat i q hi hDi' hSi.1
    exact (I.stat i q hi hDi' hSi.1).mono hDi' hVD hDD (fun u hu => .inl (hus u hu)) g1 g2

theorem act_step (hcall : CallSound P n0 w0 call) (PF : PlanFacts P ops m) (hn : n ≤ 512) {S S' : Nat → Bool} {s : Step} {l : List Step} {done : Nat} {V : Nat → AV} {e : Env} {h : AH} {us : List Made} {rs : List Seen} {eS : Env} {hS : AH} {ρ : Pl} {a : Act} {w : World}
    (hok : StepOk P ops m s) (hact : s.kind = .act) (hD : bit done s.i = false) (hpre : subM s.pre done = true) (hk : stepsA P call n ops.toList (s :: l) ⟨e, ds⟩ h us rs k = some out)
    (I : Inv P n0 w0 ops m n e0 ds ρ0 h0 ws S (bit done) V e h us rs eS hS ρ a w) (preS : ∀ i, bit (m.get s.i) i = true → S i = true) (hS' : ∀ i, S' i = (S i || decide (i = s.i))) {K : Act → World → Prop}
    (hK : ∀ V' e' h' us' rs' eS' hS2 ρ' a' w', stepsA P call n ops.toList l ⟨e', ds⟩ h' us' rs' k = some out → Inv P n0 w0 ops m n e0 ds ρ0 h0 ws S' (bit (withBit done s.i)) V' e' h' us' rs' eS' hS2 ρ' a' w' → K a' w') : wpOp P ops Q s.i K a w := by
  have hj := hok.op
  have hD' : ∀ j, bit (withBit done s.i) j = (bit done j || decide (j = s.i)) := fun j => bit_with done s.i j
  have hSj : S s.i = false := by
    cases hx : S s.i with
    | false => rfl
    | true => rw [I.sd _ hx] at hD; cases hD
  have preD : ∀ j, bit (m.get s.i) j = true → bit done j = true := by rw [subM_iff, hok.pre] at hpre; exact hpre
  have agree : ∀ t, t < 512 → namesT ops.toList s.op t = true → eS.get t = e.get t := fun t ht hnm =>
    I.curS.agree PF I.curD (fun _ _ _ => rfl) hj hSj hD preS preD I.closS I.closD ht hnm
  have hops := operands_congr (l := ops.toList) (o := s.op) agree
  have hwant : wantedA ops.toList s.op ⟨eS, ds⟩ = wantedA ops.toList s.op ⟨e, ds⟩ := wanted_congr agree
  have back : ∀ i, S' i = false → S i = false := fun i hi => by rw [hS', Bool.or_eq_false_iff] at hi; exact hi.1
  have nomade : ∀ u ∈ us, u.i ≠ s.i := fun u hu e => by
    have := (I.made u hu).2.2.2.2
    rw [e, hD] at this; cases this
  simp only [stepsA] at hk
  split at hk
  · cases hk
  · rename_i hw
    obtain ⟨hd, hk'⟩ := AF.put_some hk
    have hwS := wantedA_sound I.fr (hwant.trans hw)
    refine wpOp_of hj (fun h1 => by rw [hwS] at h1; cases h1) fun _ => ?_
    have hheap : HeapIs h us S' hS := ⟨I.heap.next, fun x b => by
      rw [I.heap.get]
      constructor
      · rintro (q | ⟨u, hu, q1, q2⟩)
        · exact .inl q
        · exact .inr ⟨u, hu, by rw [hS', q1]; rfl, q2⟩
      · rintro (q | ⟨u, hu, q1, q2⟩)
        · exact .inl q
        · refine .inr ⟨u, hu, ?_, q2⟩
          rw [hS'] at q1
          simpa [nomade u hu] using q1⟩
    exact hK _ _ _ _ _ _ _ _ _ _ hk' (I.act PF hn hj hD preS hS' hD' hd (.refl ρ) (.undef ρ) I.hr I.goes hheap (fun _ h => h) (fun u hu => let ⟨q1, q2, _, q4, _⟩ := I.made u hu; ⟨q1, q2, fun hs => q4 (back _ hs)⟩)
      fun i q hi hDi hSi => ⟨fun _ hu _ => hu, fun _ _ h1 h2 => ⟨h1, h2⟩⟩)
  · rename_i hw
    rw [hact] at hk
    simp only at hk
    rcases hc : commit s.pre us h with ⟨h1, us'⟩
    rw [hc] at hk
    simp only at hk
    obtain ⟨c1, c2, c3⟩ := commit_spec hc
    have hwS := wantedA_sound I.fr (hwant.trans hw)
    refine wpOp_of hj (fun _ => ?_) fun h2 => by rw [hwS] at h2; cases h2
    have hsub : Sub h1 hS := fun i b hi => by
      rw [I.heap.get]
      rcases c1 i b hi with h2 | ⟨u, hu, h2, h3⟩
      · exact .inl h2
      · exact .inr ⟨u, hu, preS _ (by rw [← hok.pre]; exact h2), h3⟩
    have hnone : ∀ u ∈ us', h1.get u.id = none := fun u hu => by
      obtain ⟨hu1, hu2⟩ := (c2 u).1 hu
      cases hx : h1.get u.id with
      | none => rfl
      | some b =>
        rcases c1 _ _ hx with h2 | ⟨y, hy, h2, h3, _⟩
        · rw [(I.made u hu1).1] at h2; cases h2
        · have := I.apart y hy u hu1 (.inl h3)
          subst this
          rw [hu2] at h2; cases h2
    have hnx : h1.next = hS.next := by rw [c3, I.heap.next]
    have H1 : HR n0 w0 ρ h1 w := I.hr.sub (fun i b hi => hsub i b hi) hnx
    rw [← operV_congr hops] at hk
    refine operV_sound hcall I.fr.env H1 hk fun x w' hcont => ?_
    obtain ⟨v, h', ρ', k1, k2, k3, k4⟩ := hcont
    simp only at k1
    split at k1 <;> try (cases k1; done)
    rename_i rs' hst
    obtain ⟨hd, hk'⟩ := AF.put_some k1
    have hfresh' : ∀ u ∈ us', h'.get u.id = none := fun u hu => by
      cases hx : h'.get u.id with
      | none => rfl
      | some b =>
        rcases k3.img _ _ hx with ⟨q, _⟩ | ⟨b0, q, _⟩
        · have := (I.made u ((c2 u).1 hu).1).2.1
          rw [c3] at q; omega
        · rw [hnone u hu] at q; cases q
    have hfill := fillS_is (S := S') (h := h') (us := us') hfresh' fun u hu y hy hid => I.apart u ((c2 u).1 hu).1 y ((c2 y).1 hy).1 (.inl hid)
    obtain ⟨g1, g2⟩ := HR.hide I.hr hsub hnx k3 k4 (hS' := fillS S' us' h') (fun i b hi => by
        rw [hfill.get] at hi
        rcases hi with hi | ⟨u, hu, u1, rfl, rfl⟩
        · exact .inl hi
        · refine .inr ⟨?_, hnone u hu⟩
          have hu1 := ((c2 u).1 hu).1
          rw [I.heap.get]
          refine .inr ⟨u, hu1, ?_, rfl, rfl⟩
          rw [hS'] at u1
          simpa [nomade u hu1] using u1) hfill.next
    refine hK _ _ _ _ _ _ _ _ _ _ hk' (I.act PF hn hj hD preS hS' hD' hd k3.ext k2 g1 (I.goes.trans g2) hfill (fun u hu => ((c2 u).1 hu).1) (fun u hu => ?_) fun i q hi hDi hSi => ⟨fun u hu hui => ?_, fun e1 hkind h2 h3 => ?_⟩)
    · have hu1 := ((c2 u).1 hu).1
      obtain ⟨_, q2, _, q4, _⟩ := I.made u hu1
      refine ⟨hfresh' u hu, ?_, fun hs => ?_⟩
      · have := k3.next; rw [c3] at this; omega
      · cases hx : ρ' u.id with
        | none => rfl
        | some pl =>
          rcases k3.grows _ _ hx with h6 | h6
          · rw [q4 (back _ hs)] at h6; cases h6
          · rw [c3] at h6; omega
    · refine (c2 u).2 ⟨hu, ?_⟩
      cases hx : bit s.pre u.i with
      | false => rfl
      | true => rw [hok.pre, hui] at hx; rw [preS _ hx] at hSi; cases hSi
    · have hb : bit s.pre i = false := by
        cases hx : bit s.pre i with
        | false => rfl
        | true => rw [hok.pre] at hx; rw [preS _ hx] at hSi; cases hSi
      obtain ⟨r1, h'', r2⟩ := steady_spec hst _ h2 hb
      simp only at r2
      obtain ⟨rfl, _⟩ := read_mono hkind r2
      exact ⟨r1, r2⟩

/-- In every order. -/
theorem any_sound (hcall : CallSound P n0 w0 call) (PF : PlanFacts P ops m) (hn : n ≤ 512) (hQ : ∀ a' w', Cont n0 w0 n ρ0 h0 ws k out a' w' → Q .normal a' w') :
    ∀ (fuel : Nat) (listed : Array Bool) (ss : List Step) (done : Nat) (V : Nat → AV) (e : Env) (h : AH) (us : List Made) (rs : List Seen) (eS : Env) (hS : AH) (ρ : Pl) (a : Act) (w : World),
      listed.size = ops.size → fuel + listed.toList.count true = ops.size → orderOk ops.size ss done = true → (∀ s ∈ ss, StepOk P ops m s) → stepsA P call n ops.toList ss ⟨e, ds⟩ h us rs k = some out →
      Inv P n0 w0 ops m n e0 ds ρ0 h0 ws (fun i => listed.getD i false) (bit done) V e h us rs eS hS ρ a w → wpAny P .any ops Q fuel listed a w := by
  intro fuel
  induction fuel with
  | zero =>
    intro listed ss done V e h us rs eS hS ρ a w hsz hcnt ho hs hk I
    have hall : ∀ i, i < ops.size → listed.getD i false = true := fun i hi => count_all (by omega) i (by omega)
    refine ⟨?_, ?_⟩
    · cases hr : Region.ready .any ops listed with
      | nil => rfl
      | cons j js =>
        exfalso
        have hj : j ∈ Region.ready .any ops listed := by rw [hr]; exact List.mem_cons_self
        obtain ⟨h1, o, h2, _⟩ := mem_ready.1 hj
        have hlt := (Array.getElem?_eq_some_iff.1 h2).1
        have h3 := hall j hlt
        have hjl : j < listed.size := by omega
        have e1 : listed.getD j true = listed[j] := by simp [hjl]
        have e2 : listed.getD j false = listed[j] := by simp [hjl]
        rw [e1] at h1; rw [e2] at h3; rw [h1] at h3; cases h3
    · obtain ⟨ss', done', V', e', h', us', rs', hS', g1, g2, g3, g4, g5⟩ := advance hn PF ss done V e h us rs hS ho hs hk I
      exact any_done hn hQ g1 g2 g3 g4 g5 hall
  | succ fuel ih =>
    intro listed ss done V e h us rs eS hS ρ a w hsz hcnt ho hs hk I
    obtain ⟨ss', done', V', e', h', us', rs', hS', g1, g2, g3, g4, g5⟩ := advance hn PF ss done V e h us rs hS ho hs hk I
    refine ⟨fun hr => any_done hn hQ g1 g2 g3 g4 g5 fun i hi => all_listed PF hsz hr i hi, fun j hj => ?_⟩
    obtain ⟨h1, o, h2, h3⟩ := mem_ready.1 hj
    have hlt : j < ops.size := (Array.getElem?_eq_some_iff.1 h2).1
    have hjl : j < listed.size := by omega
    have hSj : listed.getD j false = false := by
      have e1 : listed.getD j true = listed[j] := by simp [hjl]
      have e2 : listed.getD j false = listed[j] := by simp [hjl]
      rw [e2, ← e1]; exact h1
    have preS : ∀ i, bit (m.get j) i = true → listed.getD i false = true := fun i hi => by
      obtain ⟨ed, he, hb, hx⟩ := PF.inv j o i h2 hi
      have hon := h3 ed he hb
      rcases hx with rfl | hx
      · exact hon
      · exact g5.closS _ _ hon hx
    have hset : ∀ i, (listed.setIfInBounds j true).getD i false = (listed.getD i false || decide (i = j)) := getD_set hjl
    have hsz' : (listed.setIfInBounds j true).size = ops.size := by simpa using hsz
    have hcnt' : fuel + (listed.setIfInBounds j true).toList.count true = ops.size := by rw [count_set hjl hSj]; omega
    cases hDj : bit done' j with
    | true =>
      exact list_step PF hn g5 h2 hDj hSj preS hset fun eS' hS2 ρ' a' w' I' => ih _ ss' done' V' e' h' us' rs' eS' hS2 ρ' a' w' hsz' hcnt' g2 g3 g4 I'
    | false =>
      rcases orderOk_has g2 j hlt with h4 | ⟨s, hs1, hs2⟩
      · rw [hDj] at h4; cases h4
      rcases g1 with rfl | ⟨s0, l, rfl, hact⟩
      · cases hs1
      have ⟨o1, o2, o3, o4⟩ : bit done' s0.i = false ∧ subM s0.pre done' = true ∧ waits s0.i done' l = true ∧ orderOk ops.size l (withBit done' s0.i) = true := by
        have hia : isAct s0.kind = true := by rw [hact]; rfl
        simp only [orderOk] at g2
        split at g2
        · rename_i q1 q2
          rw [hia] at g2
          simp only at g2
          split at g2
          · rename_i q3; exact ⟨q1, q2, q3, g2⟩
          · cases g2
        · cases g2
      have hs0 : s = s0 := by
        rcases List.mem_cons.1 hs1 with h5 | h5
        · exact h5
        · exfalso
          have hsok := g3 s hs1
          obtain ⟨w1, w2⟩ := waits_spec o3 s h5
          by_cases hka : s.kind = .act
          · have := w1 hka
            rw [hsok.pre, hs2] at this
            have := g5.sd _ (preS _ this)
            rw [o1] at this; cases this
          · have := w2 hka
            rw [(subM_iff _ _).2] at this
            · cases this
            · intro i hi
              rw [hsok.pre, hs2] at hi
              exact g5.sd _ (preS _ hi)
      subst hs0
      subst hs2
      exact act_step hcall PF hn (g3 s List.mem_cons_self) hact o1 o2 g4 g5 preS hset fun V2 e2 h2 us2 rs2 eS2 hS2 ρ2 a2 w2 k1 k2 =>
        ih _ l (withBit done' s.i) V2 e2 h2 us2 rs2 eS2 hS2 ρ2 a2 w2 hsz' hcnt' o4 (fun x hx => g3 x (List.mem_cons_of_mem _ hx)) k1 k2

theorem steps_sound (hcall : CallSound P n0 w0 call) (hmix : P.follows .mixedOrders = true) (hn : n ≤ 512) {id : Nat} {p : List Step} (hp : planOf P ops.toList = some p) {f : AF} {h : AH} {ρ : Pl} {a : Act} {w : World} (F : FR ρ n f a) (H : HR n0 w0 ρ h w)
    (hk : stepsA P call n ops.toList p f h [] [] k = some out) (hQ : ∀ a' w', Cont n0 w0 n ρ h w k out a' w' → Q .normal a' w') : (Code.region id ops true).wp P Q a w := by
  obtain ⟨m, PF, ho, hs⟩ := planOf_spec hp
  obtain ⟨e, ds⟩ := f
  refine wp_region_any hmix ?_
  have Hd : HR n0 w0 ρ h w.drew := H.drew
  have hG : Goes ρ h w ρ h w.drew := (Goes.refl ρ h w).drew
  have rep : ∀ i, (Array.replicate ops.size false).getD i false = false := fun i => by
    rw [Array.getD_eq_getD_getElem?, Array.getElem?_replicate]
    split <;> rfl
  refine any_sound (e0 := e) (ds := ds) (ρ0 := ρ) (h0 := h) (ws := w) (m := m) hcall PF hn hQ ops.size _ p 0 (fun _ => .undef) e h [] [] e h ρ a w.drew (by simp) (by simp [List.count_replicate]) ho hs hk ?_
  have b0 : ∀ i, bit 0 i = false := bit_zero
  refine ⟨fun i hi => ?_, fun i j hi => ?_, fun i j hi => ?_, ⟨fun i o t _ _ _ hD => ?_, fun _ _ _ => rfl⟩, ⟨fun i o t _ _ _ hD => ?_, fun _ _ _ => rfl⟩, F, Hd, hG, ⟨rfl, fun j b => by simp⟩, fun u hu => (by cases hu), fun u hu => (by cases hu), fun i o _ hD => ?_⟩
  · simp only [rep] at hi; cases hi
  · simp only [rep] at hi; cases hi
  · rw [b0] at hi; cases hi
  · rw [b0] at hD; cases hD
  · simp only [rep] at hD; cases hD
  · rw [b0] at hD; cases hD

end Go.Ab

namespace Go.Ab
open Go.RowKit

variable {ω : Type} {P : Program} {n0 : Nat} {w0 : World}

/-! ### code -/

def XR : AX → Exit → Prop
  | .normal, .normal => True
  | .exit i, .exit j => i = j
  | .ret, .ret => True
  | _, _ => False

/-- What follows a piece of code. -/
def ContX (n0 : Nat) (w0 : World) (n : Nat) (ρ : Pl) (h : AH) (w : World) (k : KX ω) (out : ω) (e : Exit) (a' : Act) (w' : World) : Prop :=
  ∃ x f' h' ρ', XR x e ∧ k x f' h' = some out ∧ FR ρ' n f' a' ∧ Goes ρ h w ρ' h' w' ∧ HR n0 w0 ρ' h' w'

theorem ContX.step {n : Nat} {ρ ρ1 : Pl} {h h1 : AH} {w w1 : World} {k : KX ω} {out : ω} {e : Exit} {a' : Act} {w' : World} (G : Goes ρ h w ρ1 h1 w1) (c : ContX n0 w0 n ρ1 h1 w1 k out e a' w') : ContX n0 w0 n ρ h w k out e a' w' :=
  let ⟨x, f', h', ρ', c0, c1, c2, c3, c4⟩ := c; ⟨x, f', h', ρ', c0, c1, c2, G.trans c3, c4⟩

theorem evCode_sound {call : CallH ω} (hcall : CallSound P n0 w0 call) (hmix : P.follows .mixedOrders = true) {n : Nat} (hn : n ≤ 512) {rounds : Nat} : ∀ (c : Code) (Q : Exit → Act → World → Prop) (ρ : Pl) (f : AF) (h : AH) (a : Act) (w : World) (k : KX ω) (out : ω),
    FR ρ n f a → HR n0 w0 ρ h w → evCode P call rounds n c f h k = some out → (∀ e a' w', ContX n0 w0 n ρ h w k out e a' w' → Q e a' w') → c.wp P Q a w := by
  intro c
  induction c with
  | skip =>
    intro Q ρ f h a w k out F H e hQ
    exact wp_skip (hQ _ _ _ ⟨.normal, f, h, ρ, trivial, e, F, .refl ρ h w, H⟩)
  | label l =>
    intro Q ρ f h a w k out F H e hQ
    exact wp_label (hQ _ _ _ ⟨.normal, f, h, ρ, trivial, e, F, .refl ρ h w, H⟩)
  | ret =>
    intro Q ρ f h a w k out F H e hQ
    exact wp_ret (hQ _ _ _ ⟨.ret, f, h, ρ, trivial, e, F, .refl ρ h w, H⟩)
  | exit id =>
    intro Q ρ f h a w k out F H e hQ
    exact wp_exit (hQ _ _ _ ⟨.exit id, f, h, ρ, rfl, e, F, .refl ρ h w, H⟩)
  | region id ops draw =>
    intro Q ρ f h a w k out F H e hQ
    simp only [evCode] at e
    have fin : ∀ a' w', Cont n0 w0 n ρ h w (fun a' h' => k .normal a' h') out a' w' → Q .normal a' w' := fun a' w' c => by
      obtain ⟨f', h', ρ', c1, c2, c3, c4⟩ := c
      exact hQ _ _ _ ⟨.normal, f', h', ρ', trivial, c1, c2, c3, c4⟩
    cases draw with
    | false => exact wp_region_list (opersA_sound hcall hn ops.toList ρ f h a w _ out F H e fin)
    | true =>
      simp only at e
      split at e
      · rename_i p hp
        exact steps_sound hcall hmix hn hp F H e fin
      · cases e
  | seq x y ihx ihy =>
    intro Q ρ f h a w k out F H e hQ
    refine wp_seq (ihx _ ρ f h a w _ out F H e fun e' a' w' c => ?_)
    obtain ⟨xx, f', h', ρ', c0, c1, c2, c3, c4⟩ := c
    cases e' <;> cases xx <;> first | cases c0 | skip
    · exact ihy Q ρ' f' h' a' w' k out c2 c4 c1 fun e2 a2 w2 c => hQ _ _ _ (c.step c3)
    · exact hQ _ _ _ ⟨.exit _, f', h', ρ', rfl, c1, c2, c3, c4⟩
    · exact hQ _ _ _ ⟨.ret, f', h', ρ', trivial, c1, c2, c3, c4⟩
  | cond cc x y ihx ihy =>
    intro Q ρ f h a w k out F H e hQ
    simp only [evCode] at e
    have hr := opv_sound F.env cc
    split at e <;> try (cases e; done)
    · rename_i hb
      rw [hb] at hr
      generalize hv : a.eval cc = v at hr
      cases hr
      exact wp_cond_true hv (ihx Q ρ f h a w k out F H e hQ)
    · rename_i hb
      rw [hb] at hr
      generalize hv : a.eval cc = v at hr
      cases hr
      exact wp_cond_false hv (ihy Q ρ f h a w k out F H e hQ)
  | block id c ih =>
    intro Q ρ f h a w k out F H e hQ
    simp only [evCode] at e
    refine wp_block (ih _ ρ f h a w _ out F H e fun e' a' w' c => ?_)
    obtain ⟨xx, f', h', ρ', c0, c1, c2, c3, c4⟩ := c
    cases e' <;> cases xx <;> first | cases c0 | skip
    · exact hQ _ _ _ ⟨.normal, f', h', ρ', trivial, c1, c2, c3, c4⟩
    · rename_i id'
      simp only at c1
      simp only [Exit.inBlock]
      split at c1
      · rename_i hid
        rw [if_pos (Nat.eq_of_beq_eq_true hid)]
        exact hQ _ _ _ ⟨.normal, f', h', ρ', trivial, c1, c2, c3, c4⟩
      · rename_i hid
        rw [if_neg (by intro e; rw [e, Nat.beq_refl] at hid; cases hid)]
        exact hQ _ _ _ ⟨.exit id', f', h', ρ', rfl, c1, c2, c3, c4⟩
    · exact hQ _ _ _ ⟨.ret, f', h', ρ', trivial, c1, c2, c3, c4⟩
  | loop c ih =>
    intro Q ρ f h a w k out F H e hQ
    simp only [evCode] at e
    refine wp_loop_rounds rounds ?_
    revert e hQ
    generalize hr : rounds = r
    intro e hQ
    have key : ∀ (r : Nat) (ρ : Pl) (f : AF) (h : AH) (a : Act) (w : World), FR ρ n f a → HR n0 w0 ρ h w → loopE (evCode P call rounds n c) r f h k = some out → (∀ e a' w', ContX n0 w0 n ρ h w k out e a' w' → Q e a' w') → Code.rounds P c Q r a w := by
      intro r
      induction r with
      | zero => intro ρ f h a w F H e hQ; cases e
      | succ r ihr =>
        intro ρ f h a w F H e hQ
        rw [rounds_succ]
        refine ih _ ρ f h a w _ out F H e fun e' a' w' c => ?_
        obtain ⟨xx, f', h', ρ', c0, c1, c2, c3, c4⟩ := c
        cases e' <;> cases xx <;> first | cases c0 | skip
        · exact ihr ρ' f' h' a' w' c2 c4 c1 fun e2 a2 w2 c => hQ _ _ _ (c.step c3)
        · exact hQ _ _ _ ⟨.exit _, f', h', ρ', rfl, c1, c2, c3, c4⟩
        · exact hQ _ _ _ ⟨.ret, f', h', ρ', trivial, c1, c2, c3, c4⟩
    exact key r ρ f h a w F H (by rw [hr]; exact e) hQ
  | scope c ih =>
    intro Q ρ f h a w k out F H e hQ
    simp only [evCode] at e
    refine wp_scope_straight (ih _ ρ f h a w k out F H e fun e' a' w' c => ?_)
    have hx := c
    obtain ⟨xx, f', h', ρ', c0, c1, c2, c3, c4⟩ := c
    cases e' <;> first | exact hQ _ _ _ hx | skip
    cases xx <;> cases c0
  | rangeFunc f ps x y ihx ihy => intro Q ρ f h a w k out F H e hQ; cases e
  | goto l => intro Q ρ f h a w k out F H e hQ; cases e
  | refuse why => intro Q ρ f h a w k out F H e hQ; cases e

end Go.Ab

namespace Go.Ab
open Go.RowKit

variable {ω : Type} {P : Program} {n0 : Nat} {w0 : World}

/-! ### functions -/

theorem ofArgs_get : ∀ (l : List AV) (i : Nat) (e : Env) (t : Nat), i + l.length ≤ 512 → t < 512 → (Env.ofArgs l i e).get t = if i ≤ t then (l[t - i]?).getD (e.get t) else e.get t
  | [], i, e, t, _, _ => by simp [Env.ofArgs]
  | v :: l, i, e, t, hl, ht => by
    simp only [List.length_cons] at hl
    simp only [Env.ofArgs]
    rw [ofArgs_get l (i + 1) _ t (by omega) ht, Env.get_set e v (by omega) ht]
    by_cases h1 : i + 1 ≤ t
    · have h2 : i ≤ t := by omega
      have h3 : t ≠ i := by omega
      have h4 : t - i = (t - (i + 1)) + 1 := by omega
      rw [if_pos h1, if_pos h2, if_neg h3, h4, List.getElem?_cons_succ]
    · rw [if_neg h1]
      by_cases h2 : t = i
      · subst h2; simp
      · rw [if_neg h2, if_neg (by omega)]

theorem enter_sound {ρ : Pl} {args : List AV} {vs : Array Value} {n : Nat} (hn : n ≤ 512) (hl : args.length ≤ n) (G : GR ρ) (r : VRs ρ args vs.toList) :
    FR ρ n ⟨Env.ofArgs args 0 Env.empty, []⟩ { tmps := vs ++ Array.replicate (n - vs.size) Go.undef, defers := [] } := by
  have hsz : args.length = vs.size := by simpa using r.1
  refine ⟨⟨by simp; omega, fun t ht => ?_, G⟩, .nil⟩
  rw [show (⟨Env.ofArgs args 0 Env.empty, []⟩ : AF).env.get t = (Env.ofArgs args 0 Env.empty).get t from rfl, ofArgs_get args 0 _ t (by omega) (by omega), if_pos (Nat.zero_le _), Nat.sub_zero]
  simp only [Array.getD_eq_getD_getElem?]
  rcases Nat.lt_or_ge t vs.size with h | h
  · rw [Array.getElem?_append_left h]
    have h2 : t < args.length := by omega
    have := r.2 t args[t] vs[t] (by simp [h2]) (by simp [h])
    simpa [h, h2] using this
  · rw [Array.getElem?_append_right h, List.getElem?_eq_none (by omega)]
    simp only [Option.getD_none]
    rw [Env.get_empty, Array.getElem?_replicate]
    split <;> exact .undef ρ

theorem resultsA_sound {ρ : Pl} {h : AH} {w : World} {n : Nat} {e : Env} {tmps : Array Value} (hn : n ≤ 512) (E : ER ρ n e tmps) (H : HR n0 w0 ρ h w) : ∀ (rs : List ResultVar) (l : List AV), resultsA P e h rs = some l →
    ∃ vs : List Value, VRs ρ l vs ∧ (rs.mapM fun (x : ResultVar) => match x with | .tmp t => (pure (tmps.getD t Go.undef) : Sem Value) | .cell a t => do loadVar t (← asAddr (tmps.getD a Go.undef))).run P w = .ok vs w
  | [], l, he => by
    simp only [resultsA, Option.some.injEq] at he
    subst he
    exact ⟨[], .nil ρ, rfl⟩
  | .tmp t :: rs, l, he => by
    simp only [resultsA] at he
    split at he <;> try (cases he; done)
    rename_i l' ht hl
    cases he
    rw [Nat.blt_eq] at ht
    obtain ⟨vs, h1, h2⟩ := resultsA_sound hn E H rs l' hl
    refine ⟨tmps.getD t Go.undef :: vs, .cons (E.vals t ht) h1, ?_⟩
    simp only [List.mapM_cons, Sem.run_bind, Sem.run_pure, Result.andThen_ok, h2]
  | .cell a t :: rs, l, he => by
    simp only [resultsA] at he
    split at he <;> try (cases he; done)
    rename_i b o l' ht hv hl
    split at he <;> try (cases he; done)
    rename_i v hld
    cases he
    rw [Nat.blt_eq] at ht
    obtain ⟨vs, h1, h2⟩ := resultsA_sound hn E H rs l' hl
    have hr := E.vals a ht
    rw [hv] at hr
    generalize hx : tmps.getD a Go.undef = x at hr
    cases hr with
    | ptr hp =>
    rename_i pl
    obtain ⟨y, k1, k2⟩ := loadV_run (P := P) H hld hp
    refine ⟨y :: vs, .cons k2 h1, ?_⟩
    have ha : (asAddr (tmps.getD a Go.undef)).run P w = .ok ⟨pl.blk, pl.sh + o, none⟩ w := by rw [hx]; rfl
    simp only [List.mapM_cons, Sem.run_bind, ha, Sem.run_pure, Result.andThen_ok, k1, h2]

theorem giveA_sound {ρ : Pl} {h : AH} {w : World} {fn : Func} {f : AF} {a : Act} {k : KV ω} {out : ω} (hn : fn.ntmps ≤ 512) (F : FR ρ fn.ntmps f a) (H : HR n0 w0 ρ h w) (e : giveA P fn f h k = some out) :
    ∃ v, (results fn a.tmps).run P w = .ok v w ∧ RetR n0 w0 ρ h w k out (.returned v) w := by
  unfold giveA at e
  split at e <;> try (cases e; done)
  rename_i l hl
  obtain ⟨vs, h1, h2⟩ := resultsA_sound hn F.env H _ l hl
  have hrun : (results fn a.tmps).run P w = .ok (if h : vs.toArray.size = 1 then vs.toArray[0] else .tuple vs.toArray) w := by
    unfold results
    rw [Array.mapM_eq_mapM_toList]
    simp only [Sem.run_bind, Sem.run_map]
    erw [h2]
    simp
  refine ⟨_, hrun, oneOrTup l, _, ρ, h, rfl, ?_, .refl ρ h w, H, e⟩
  cases l with
  | nil =>
    rw [h1.nil_inv]
    exact .tupL (.nil ρ)
  | cons a1 l =>
    obtain ⟨v, ws, rfl, r1, r2⟩ := h1.uncons
    cases l with
    | nil => rw [r2.nil_inv]; exact r1
    | cons a2 l =>
      obtain ⟨v2, ws2, rfl, r3, r4⟩ := r2.uncons
      rw [dif_neg (by simp)]
      exact .tupL h1

/-- A function that is no function of the runtime's. -/
def PlainFuncs (P : Program) : Prop := ∀ (f : Nat) (fn : Func), P.funcs[f]? = some fn → (fn.name == "runtime.NumGoroutine") = false

theorem callFunc_enter (hP : PlainFuncs P) {f : Nat} {fn : Func} {c : Code} (hf : P.funcs[f]? = some fn) (hb : fn.body = some c) (vs : Array Value) (w : World) : (callFunc f vs).run P w = .ok (.enter f vs) w := by
  have h1 := hP f fn hf
  unfold callFunc
  simp only [Sem.run_bind, run_program, Result.andThen_ok, hf, h1, hb, Option.isNone_some, Bool.false_eq_true, if_false, Sem.run_pure]

theorem bodyA_sound {call : CallH ω} (hcall : CallSound P n0 w0 call) (hmix : P.follows .mixedOrders = true) {rounds : Nat} {fn : Func} {args : List AV} {h : AH} {k : AF → AH → Option ω} {out : ω} (e : bodyA P call rounds fn args h k = some out)
    {ρ : Pl} {w : World} {vs : Array Value} (H : HR n0 w0 ρ h w) (G : GR ρ) (r : VRs ρ args vs.toList) : ∃ c, fn.body = some c ∧ fn.ntmps ≤ 512 ∧ ∀ Q : Exit → Act → World → Prop, (∀ a' w', Cont n0 w0 fn.ntmps ρ h w k out a' w' → Q .normal a' w' ∧ Q .ret a' w') →
      c.wp P Q { tmps := vs ++ Array.replicate (fn.ntmps - vs.size) Go.undef, defers := [] } w := by
  unfold bodyA at e
  split at e <;> try (cases e; done)
  rename_i c hb h1 h2
  have h1' := Nat.le_of_ble_eq_true h1
  have h2' := Nat.le_of_ble_eq_true h2
  refine ⟨c, hb, h1', fun Q hQ => evCode_sound hcall hmix h1' c Q ρ _ h _ w _ out (enter_sound h1' h2' G r) H e fun e' a' w' cx => ?_⟩
  obtain ⟨x, f', h', ρ', c0, c1, c2, c3, c4⟩ := cx
  cases e' <;> cases x <;> first | cases c0 | skip
  · exact (hQ a' w' ⟨f', h', ρ', c1, c2, c3, c4⟩).1
  · cases c1
  · exact (hQ a' w' ⟨f', h', ρ', c1, c2, c3, c4⟩).2

theorem RetR.step {ρ ρ1 : Pl} {h h1 : AH} {w w1 : World} {k : KV ω} {out : ω} {e : Ending} {w' : World} (G : Goes ρ h w ρ1 h1 w1) (r : RetR n0 w0 ρ1 h1 w1 k out e w') : RetR n0 w0 ρ h w k out e w' :=
  let ⟨v, x, ρ', h', r1, r2, r3, r4, r5⟩ := r; ⟨v, x, ρ', h', r1, r2, G.trans r3, r4, r5⟩

theorem flatA_sound {call : CallH ω} (hcall : CallSound P n0 w0 call) (hmix : P.follows .mixedOrders = true) (hP : PlainFuncs P) {rounds : Nat} : LateSound P n0 w0 (flatA P call rounds) := by
  intro g args h k out e ρ w vs H G r
  unfold flatA at e
  split at e <;> try (cases e; done)
  rename_i fn hf
  obtain ⟨c, hb, hn, hw⟩ := bodyA_sound hcall hmix e H G r
  refine ⟨callFunc_enter hP hf hb vs w, fun u => callsD_of_wp (R := RetR n0 w0 ρ h w k out) hf hb (hw _ fun a' w' cc => ?_)⟩
  obtain ⟨f', h', ρ', c1, c2, c3, c4⟩ := cc
  simp only at c1
  split at c1 <;> try (cases c1; done)
  rename_i hds
  have hd : a'.defers = [] := by
    have := c2.ds
    rw [hds] at this
    exact this.nil_inv
  obtain ⟨v, g1, g2⟩ := giveA_sound hn c2 c4 c1
  exact ⟨⟨hd, v, g1, g2.step c3⟩, ⟨hd, v, g1, g2.step c3⟩⟩

theorem leaveA_sound {call : CallH ω} (hlate : LateSound P n0 w0 call) {fn : Func} {tmps : Array Value} {R : Ending → World → Prop} : ∀ (ps : List (Nat × List AV)) (ds : List Deferred) (ρ : Pl) (h : AH) (w : World) (k : AH → Option ω) (out : ω),
    DsR ρ ps ds → HR n0 w0 ρ h w → GR ρ → leaveA call ps h k = some out → (∀ ρ' h' w', k h' = some out → Goes ρ h w ρ' h' w' → HR n0 w0 ρ' h' w' → ∃ v, (results fn tmps).run P w' = .ok v w' ∧ R (.returned v) w') → Leaves P fn tmps R ds .returning w
  | [], ds, ρ, h, w, k, out, D, H, G, e, hk => by
    rw [D.nil_inv]
    exact hk ρ h w e (.refl ρ h w) H
  | (f, args) :: ps, ds, ρ, h, w, k, out, D, H, G, e, hk => by
    obtain ⟨d, ds', rfl, ⟨cap, h1, h2⟩, D'⟩ := D.uncons
    simp only [leaveA] at e
    obtain ⟨k1, k2⟩ := hlate f args h _ out e ρ w (d.args ++ cap) H G h2
    refine ⟨by simp, _, cap, f, d.args ++ cap, h1, ?_, (k2 .returning).mono fun e' u' w' hr => ?_⟩
    · rw [h1]; exact k1
    · obtain ⟨rfl, v, x, ρ', h', rfl, r1, r2, r3, r4⟩ := hr
      exact leaveA_sound hlate ps ds' ρ' h' w' k out (D'.mono r2.ext) r3 (G.mono r2.ext) r4 fun ρ2 h2 w2 q1 q2 q3 => hk ρ2 h2 w2 q1 (r2.trans q2) q3

theorem evBody_sound {call : CallH ω} (hcall : CallSound P n0 w0 call) (hmix : P.follows .mixedOrders = true) (hP : PlainFuncs P) {rounds : Nat} {g : Nat} {fn : Func} (hf : P.funcs[g]? = some fn) {args : List AV} {h : AH} {k : KV ω} {out : ω}
    (e : evBody P call rounds fn args h k = some out) {ρ : Pl} {w : World} {vs : Array Value} (H : HR n0 w0 ρ h w) (G : GR ρ) (r : VRs ρ args vs.toList) : Outcome P g vs w (RetR n0 w0 ρ h w k out) := by
  unfold evBody at e
  obtain ⟨c, hb, hn, hw⟩ := bodyA_sound hcall hmix e H G r
  refine .inl ⟨callFunc_enter hP hf hb vs w, calls_of_wp_defers hf hb (hw _ fun a' w' cc => ?_)⟩
  obtain ⟨f', h', ρ', c1, c2, c3, c4⟩ := cc
  have : Leaves P fn a'.tmps (RetR n0 w0 ρ h w k out) a'.defers .returning w' :=
    leaveA_sound (flatA_sound hcall hmix hP) f'.ds a'.defers ρ' h' w' _ out c2.ds c4 c2.env.glob c1 fun ρ2 h2 w2 q1 q2 q3 => by
      obtain ⟨v, g1, g2⟩ := giveA_sound hn (c2.mono q2.ext) q3 q1
      exact ⟨v, g1, (g2.step q2).step c3⟩
  exact ⟨this, this⟩

/-- What is known otherwise is so. -/
def KnownSound (P : Program) (n0 : Nat) (w0 : World) (I : Known) : Prop :=
  ∀ (f : Nat) (args : List AV) (h : AH) (v : AV) (h' : AH), I f args h = some (v, h') → ∀ (ρ : Pl) (w : World) (vs : Array Value), HR n0 w0 ρ h w → GR ρ → VRs ρ args vs.toList →
    Outcome P f vs w fun e w' => ∃ x ρ', e = .returned x ∧ VR ρ' v x ∧ Goes ρ h w ρ' h' w' ∧ HR n0 w0 ρ' h' w'

theorem Outcome.mono {g : Nat} {vs : Array Value} {w : World} {R R' : Ending → World → Prop} (o : Outcome P g vs w R) (h : ∀ e w', R e w' → R' e w') : Outcome P g vs w R' := by
  rcases o with ⟨h1, h2⟩ | ⟨x, w', h1, h2⟩
  · exact .inl ⟨h1, h2.mono h⟩
  · exact .inr ⟨x, w', h1, h _ _ h2⟩

/-- Every call is as the abstract one. -/
theorem evFun_sound {I : Known} (hI : KnownSound P n0 w0 I) (hmix : P.follows .mixedOrders = true) (hP : PlainFuncs P) {rounds : Nat} : ∀ d, CallSound P n0 w0 (evFun (ω := ω) P I rounds d)
  | 0 => by
    intro g args h k out e
    cases e
  | d + 1 => by
    intro g args h k out e ρ w vs H G r
    have ih := evFun_sound hI hmix hP (rounds := rounds) d
    simp only [evFun] at e
    split at e
    · rename_i v h' hkv
      refine (hI g args h v h' hkv ρ w vs H G r).mono fun e' w' hr => ?_
      obtain ⟨x, ρ', h1, h2, h3, h4⟩ := hr
      exact ⟨v, x, ρ', h', h1, h2, h3, h4, e⟩
    · split at e <;> try (cases e; done)
      rename_i fn hf
      exact evBody_sound ih hmix hP hf e H G r

end Go.Ab
