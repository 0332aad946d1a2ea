import Derived.Test.YtoobfpnphhcaoaaGreatDoorT03
set_option linter.unusedVariables false
set_option linter.unusedSimpArgs false
/- The machine's operations are the evaluator's. -/
namespace Go.Ab.E
open Go.Ab

variable {ω : Type}

/-! ### numbers -/

theorem posI_eq (k : IntKind) (s : Nat) : posI k s = wrapI k (.ofNat s) := by
  unfold posI
  cases h : Nat.ble s (maxN k) with
  | false => rfl
  | true =>
    have h' := Nat.le_of_ble_eq_true h
    show Int.ofNat s = _
    unfold wrapI resid wrapN modulus
    cases k <;> simp only [maxN] at h' ⊢ <;> first
      | (rw [Nat.mod_eq_of_lt (by omega)]; done)
      | (rw [Nat.mod_eq_of_lt (by omega)]; rw [show Nat.ble _ s = false from by (cases hb : Nat.ble _ s with | false => rfl | true => have := Nat.le_of_ble_eq_true hb; omega)])

theorem wrapF_eq (k : IntKind) (z : Int) : wrapF k z = wrapI k z := by
  cases z with
  | ofNat m => exact posI_eq k m
  | negSucc m => rfl

theorem addI_eq (k : IntKind) (a b : Int) : addI k a b = wrapI k (a + b) := by
  cases a <;> cases b <;> first | rfl | exact posI_eq k _

theorem mulI_eq (k : IntKind) (a b : Int) : mulI k a b = wrapI k (a * b) := by
  cases a <;> cases b <;> first | rfl | exact posI_eq k _

theorem subI_eq (k : IntKind) (a b : Int) : subI k a b = wrapI k (a - b) := by
  cases a with
  | negSucc m => rfl
  | ofNat m => cases b with
    | negSucc n => rfl
    | ofNat n =>
      show (Bool.rec (wrapI k (Int.ofNat m - Int.ofNat n)) (posI k (Nat.sub m n)) (Nat.ble n m) : Int) = _
      cases h : Nat.ble n m with
      | false => rfl
      | true =>
        have h' := Nat.le_of_ble_eq_true h
        show posI k (m - n) = _
        rw [posI_eq]
        congr 1
        show ((m - n : Nat) : Int) = (m : Int) - (n : Int)
        omega

theorem modulus_pow (k : IntKind) : ∃ w, modulus k = 2 ^ w := by
  cases k
  all_goals first | exact ⟨8, rfl⟩ | exact ⟨16, rfl⟩ | exact ⟨32, rfl⟩ | exact ⟨64, rfl⟩

theorem bitI_eq (g : Nat → Nat → Nat) (hg : ∀ a b w, g a b % 2 ^ w = g (a % 2 ^ w) (b % 2 ^ w)) (k : IntKind) (a b : Int) : bitI g k a b = wrapN k (g (resid k a) (resid k b)) := by
  cases a with
  | negSucc m => rfl
  | ofNat m => cases b with
    | negSucc n => rfl
    | ofNat n =>
      show posI k (g m n) = _
      rw [posI_eq]
      unfold wrapI resid
      obtain ⟨w, hw⟩ := modulus_pow k
      simp only [hw, hg]

theorem ltF_eq (a b : Int) : ltF a b = ltI a b := by cases a <;> cases b <;> rfl
theorem eqF_eq (a b : Int) : eqF a b = eqI a b := by cases a <;> cases b <;> rfl
theorem notF_eq (b : Bool) : notF b = !b := by cases b <;> rfl
theorem eqKF_eq (k k' : IntKind) : eqKF k k' = eqK k k' := by cases k <;> cases k' <;> rfl

theorem fastBin_eq {op : BinOp} {b : B2} (h : fastBin op = some b) (k : IntKind) (x y : Int) : intBin op k x y = some (b.f k x y) ∧ op ≠ .shl ∧ op ≠ .shr := by
  unfold fastBin at h
  split at h <;> first | (cases h; done) | skip
  all_goals
    cases h
    refine ⟨?_, (by intro e; cases e), (by intro e; cases e)⟩
  · simp only [intBin, addI_eq]
  · simp only [intBin, subI_eq]
  · simp only [intBin, mulI_eq]
  · simp only [intBin]; rw [bitI_eq Nat.land (fun a b w => Nat.and_mod_two_pow)]
  · simp only [intBin]; rw [bitI_eq Nat.lor (fun a b w => Nat.or_mod_two_pow)]
  · simp only [intBin]; rw [bitI_eq Nat.xor (fun a b w => Nat.xor_mod_two_pow)]
  · simp only [intBin, eqF_eq]
  · simp only [intBin, eqF_eq, notF_eq]
  · simp only [intBin, ltF_eq]
  · simp only [intBin, ltF_eq, notF_eq]
  · simp only [intBin, ltF_eq]
  · simp only [intBin, ltF_eq, notF_eq]

theorem shlI_eq (k : IntKind) (a : Int) (n : Nat) : shlI k a n = wrapI k (a * Int.ofNat (2 ^ min n k.bits)) := by
  cases a with
  | ofNat m => exact posI_eq k _
  | negSucc m => rfl

theorem shrI_eq (k : IntKind) (a : Int) (n : Nat) : shrI k a n = a.fdiv (Int.ofNat (2 ^ min n k.bits)) := by
  cases a with
  | ofNat m =>
    show Int.ofNat (m / 2 ^ min n k.bits) = _
    exact Int.ofNat_fdiv ..
  | negSucc m => rfl

theorem fastShift_eq {op : BinOp} {b : B2} (h : fastShift op = some b) (k : IntKind) (x : Int) (n : Nat) : shiftBin op k x (.ofNat n) = some (b.f k x (.ofNat n)) ∧ (op = .shl ∨ op = .shr) := by
  unfold fastShift at h
  split at h <;> first | (cases h; done) | skip
  · cases h
    refine ⟨?_, .inl rfl⟩
    simp only [shiftBin, shlI_eq]; rfl
  · cases h
    refine ⟨?_, .inr rfl⟩
    simp only [shiftBin, shrI_eq]; rfl

/-! ### operations -/

theorem optE_some {R : Type} {r : Option (AV × AH)} {f : AV → AH → Option R} {out : R} (h : optE r f = some out) : ∃ v h', r = some (v, h') ∧ f v h' = some out := by
  cases r with
  | none => cases h
  | some p => exact ⟨p.1, p.2, rfl, h⟩

theorem headE_some {R : Type} {vs : List AV} {f : AV → Option R} {out : R} (h : headE vs f = some out) : ∃ v r, vs = v :: r ∧ f v = some out := by
  cases vs with
  | nil => cases h
  | cons v r => exact ⟨v, r, rfl, h⟩

theorem consE_some {R : Type} {vs : List AV} {r : Option R} {out : R} (h : consE vs r = some out) : (∃ v t, vs = v :: t) ∧ r = some out := by
  cases vs with
  | nil => cases h
  | cons v t => exact ⟨⟨v, t, rfl⟩, h⟩

theorem natE_some {R : Type} {z : Int} {f : Nat → Option R} {out : R} (h : natE z f = some out) : ∃ n, z = .ofNat n ∧ f n = some out := by
  cases z with
  | ofNat n => exact ⟨n, rfl, h⟩
  | negSucc n => cases h

theorem newH_some {R : Type} {h : AH} {b : AB} {f : Id → AH → Option R} {out : R} (e : newH h b f = some out) : ∃ i h', h.new b = some (i, h') ∧ f i h' = some out := by
  rw [newH_eq] at e
  split at e
  · rename_i i h' hn; exact ⟨i, h', hn, e⟩
  · cases e

theorem boolRec_some {R : Type} {b : Bool} {x y : Option R} {out : R} (h : (Bool.rec x y b : Option R) = some out) : (b = true ∧ y = some out) ∨ (b = false ∧ x = some out) := by
  cases b
  · exact .inr ⟨rfl, h⟩
  · exact .inl ⟨rfl, h⟩

theorem slenE_some {R : Type} {x : AV} {f : Nat → Option R} {out : R} (h : slenE x f = some out) : ∃ n, f n = some out ∧ ((x = .nilslice ∧ n = 0) ∨ ∃ b o c, x = .slice b o n c) := by
  cases x <;> first | (cases h; done) | skip
  · exact ⟨0, h, .inl ⟨rfl, rfl⟩⟩
  · exact ⟨_, h, .inr ⟨_, _, _, rfl⟩⟩

theorem load_of {h : AH} {b : Id} {own : Bool} {vs : List AV} (e : h.get b = some (.cells own vs)) (o n : Nat) : h.load b o n = takeN n (dropN o vs) := by
  unfold AH.load; rw [e]; rfl

/-- What an operation's code gives. -/
def Gives (T : F.Tb) (o : Op) (ev : Operand → AV) (j : JF ω) (cx : Cx ω) (l : Loc) (fr : Fr) (h : AH) (out : ω) : Prop :=
  ∃ v h', F.opG T o ev h = some (v, h') ∧ j v cx l fr h' = some out

variable {T : F.Tb} {ev : Operand → AV} {j : JF ω} {cx : Cx ω} {l : Loc} {fr : Fr} {h : AH} {out : ω}

theorem on1_sim {x : XA} {f : AV → AH → Option (AV × AH)} {a : AV} (ha : x.run l fr = a) (e : (on1 x f j).run cx l fr h = some out) : ∃ v h', f a h = some (v, h') ∧ j v cx l fr h' = some out := by
  cases x; subst ha; exact optE_some e

theorem on2_sim {x y : XA} {f : AV → AV → AH → Option (AV × AH)} {a b : AV} (ha : x.run l fr = a) (hb : y.run l fr = b) (e : (on2 x y f j).run cx l fr h = some out) : ∃ v h', f a b h = some (v, h') ∧ j v cx l fr h' = some out := by
  cases x; cases y; subst ha; subst hb; exact optE_some e

theorem onL_sim {x : LA} {f : List AV → AH → Option (AV × AH)} {a : List AV} (ha : x.run l fr = a) (e : (onL x f j).run cx l fr h = some out) : ∃ v h', f a h = some (v, h') ∧ j v cx l fr h' = some out := by
  cases x; subst ha; exact optE_some e

theorem onLL_sim {x y : LA} {f : List AV → List AV → AH → Option (AV × AH)} {a b : List AV} (ha : x.run l fr = a) (hb : y.run l fr = b) (e : (onLL x y f j).run cx l fr h = some out) : ∃ v h', f a b h = some (v, h') ∧ j v cx l fr h' = some out := by
  cases x; cases y; subst ha; subst hb; exact optE_some e

theorem onS_sim {x : XA} {a b c : OA} {f : AV → Option AV → Option AV → Option AV → AH → Option (AV × AH)} {xv : AV} {av bv cv : Option AV} (hx : x.run l fr = xv) (ha : a.run l fr = av) (hb : b.run l fr = bv) (hc : c.run l fr = cv)
    (e : (onS x a b c f j).run cx l fr h = some out) : ∃ v h', f xv av bv cv h = some (v, h') ∧ j v cx l fr h' = some out := by
  cases x; cases a; cases b; cases c; subst hx; subst ha; subst hb; subst hc; exact optE_some e

theorem in1_run {x : XA} {f : AV → JF ω → Cx ω → Loc → Fr → AH → Option ω} : (in1 x f j).run cx l fr h = f (x.run l fr) j cx l fr h := by cases x; rfl
theorem in2_run {x y : XA} {f : AV → AV → JF ω → Cx ω → Loc → Fr → AH → Option ω} : (in2 x y f j).run cx l fr h = f (x.run l fr) (y.run l fr) j cx l fr h := by cases x; cases y; rfl

theorem la_run {acc : Operand → XA} {ev : Operand → AV} : ∀ (xs : List Operand), (∀ x ∈ xs, (acc x).run l fr = ev x) → (la acc xs).run l fr = xs.map ev
  | [], _ => rfl
  | x :: xs, hx => by
    have ih := la_run xs (fun y hy => hx y (List.mem_cons_of_mem _ hy))
    have h1 := hx x List.mem_cons_self
    show (XA.rec (motive := fun _ => LA) (fun xf => LA.rec (motive := fun _ => LA) (fun lf => ⟨fun l fr => xf l fr :: lf l fr⟩) (la acc xs)) (acc x)).run l fr = _
    revert ih h1
    cases acc x
    cases la acc xs
    intro ih h1
    simp only [List.map_cons]
    rw [← ih, ← h1]

theorem oa_run {acc : Operand → XA} {ev : Operand → AV} (x : Option Operand) (hx : ∀ y ∈ x.toArray, (acc y).run l fr = ev y) : (oa acc x).run l fr = x.map ev := by
  cases x with
  | none => rfl
  | some x =>
    have h1 := hx x (by simp)
    show (XA.rec (motive := fun _ => OA) (fun xf => ⟨fun l fr => some (xf l fr)⟩) (acc x)).run l fr = _
    revert h1
    cases acc x
    intro h1
    show some _ = some _
    rw [← h1]

theorem ok1_some {r : Option AV} {v : AV} {h h' : AH} (e : ok1 h r = some (v, h')) : r = some v ∧ h' = h := by
  cases r with
  | none => cases e
  | some w => cases e; exact ⟨rfl, rfl⟩

theorem arith2_sim {op : BinOp} {b : B2} (hb : fastBin op = some b) {t : Nat} {x y : AV} (e : arith2 b.f x y j cx l fr h = some out) : ∃ v, F.binOpA T op t x y = some v ∧ j v cx l fr h = some out := by
  obtain ⟨k, a, rfl, e1⟩ := intE_some e
  clear e
  obtain ⟨k', a', rfl, e⟩ := intE_some e1
  clear e1
  rcases boolRec_some e with ⟨hk, e⟩ | ⟨_, e⟩
  · rw [eqKF_eq] at hk
    obtain ⟨h1, h2, h3⟩ := fastBin_eq hb k a a'
    refine ⟨_, ?_, e⟩
    rw [← h1]
    cases op <;> first | exact absurd rfl h2 | exact absurd rfl h3 | (simp only [F.binOpA, hk])
  · cases e

theorem shift2_sim {op : BinOp} {b : B2} (hb : fastShift op = some b) {t : Nat} {x y : AV} (e : shift2 b.f x y j cx l fr h = some out) : ∃ v, F.binOpA T op t x y = some v ∧ j v cx l fr h = some out := by
  obtain ⟨k, a, rfl, e1⟩ := intE_some e
  clear e
  obtain ⟨k', a', rfl, e⟩ := intE_some e1
  clear e1
  cases a' with
  | negSucc n => cases e
  | ofNat n =>
    obtain ⟨h1, h2⟩ := fastShift_eq hb k a n
    refine ⟨_, ?_, e⟩
    rw [← h1]
    rcases h2 with rfl | rfl <;> rfl

theorem loadS_sim {t : Nat} {a : AV} (ht : F.isAggT T t = some false) (e : loadS a j cx l fr h = some out) : ∃ b o v, a = .ptr b o ∧ F.loadV T t h b o = some v ∧ j v cx l fr h = some out := by
  obtain ⟨b, o, rfl, e⟩ := ptrE_some e
  obtain ⟨own, vs, hb, e⟩ := cellsE_some e
  obtain ⟨v, r, hd, e⟩ := headE_some e
  rw [getH_eq] at hb
  rw [dropF_eq] at hd
  refine ⟨b, o, v, rfl, ?_, e⟩
  simp only [F.loadV, ht, load_of hb, hd, takeN]

theorem loadM_sim {t n : Nat} {a : AV} (ht : F.isAggT T t = some true) (hn : F.sizeT T t = some n) (e : loadM n a j cx l fr h = some out) : ∃ b o v, a = .ptr b o ∧ F.loadV T t h b o = some v ∧ j v cx l fr h = some out := by
  obtain ⟨b, o, rfl, e⟩ := ptrE_some e
  obtain ⟨own, vs, hb, e⟩ := cellsE_some e
  rw [getH_eq] at hb
  rw [dropF_eq, C.takeC_eq] at e
  cases hd : takeN n (dropN o vs) with
  | none => rw [hd] at e; cases e
  | some w =>
    rw [hd] at e
    refine ⟨b, o, .agg w, rfl, ?_, e⟩
    simp only [F.loadV, ht, hn, load_of hb, hd]

theorem storeS_sim {t : Nat} {a v : AV} {gen : I ω} (ht : F.sizeT T t = some 1) (e : storeS a v gen j cx l fr h = some out) :
    gen.run cx l fr h = some out ∨ ∃ b o h', a = .ptr b o ∧ F.storeV T t h b o v = some h' ∧ j .undef cx l fr h' = some out := by
  rcases boolRec_some e with ⟨hv, e⟩ | ⟨_, e⟩
  · obtain ⟨b, o, rfl, e⟩ := ptrE_some e
    obtain ⟨vs, hb, e⟩ := ownE_some e
    obtain ⟨hd, e⟩ := consE_some e
    rw [getH_eq] at hb
    rw [dropF_eq] at hd
    rw [setH_eq] at e
    obtain ⟨h1, h2⟩ := cellE_true hv
    refine .inr ⟨b, o, _, rfl, ?_, e⟩
    simp only [F.storeV, h1, ht, List.length_cons, List.length_nil, AH.store, hb, allCells, h2, setAt_splice o v vs hd]
  · exact .inl e

theorem appL_eq (a b : List AV) : appL a b = a ++ b := by
  induction a with
  | nil => rfl
  | cons v a ih => show v :: appL a b = _; rw [ih]; rfl

theorem allF_true {vs : List AV} (h : allF vs = true) : allCells vs = true := by
  induction vs with
  | nil => rfl
  | cons v vs ih =>
    have h' : (Bool.rec false (allF vs) (cellE v) : Bool) = true := h
    cases hv : cellE v with
    | false => rw [hv] at h'; cases h'
    | true =>
      rw [hv] at h'
      simp only [allCells, (cellE_true hv).2]
      exact ih h'

theorem endsAt_true : ∀ {m : Nat} {vs : List AV}, endsAt m vs = true → vs.length = m := by
  intro m vs e
  cases m with
  | zero =>
    cases vs with
    | nil => rfl
    | cons v vs => cases e
  | succ m =>
    have e' : (List.rec (motive := fun _ => Bool) false (fun _ t _ => List.rec (motive := fun _ => Bool) true (fun _ _ _ => false) t) (dropF m vs)) = true := e
    rw [dropF_eq] at e'
    have key : ∀ (m : Nat) (vs : List AV) (x : AV), dropN m vs = [x] → vs.length = m + 1 := by
      intro m
      induction m with
      | zero => intro vs x hx; simp only [dropN] at hx; subst hx; rfl
      | succ m ih =>
        intro vs x hx
        cases vs with
        | nil => simp [dropN] at hx
        | cons v vs => simp only [dropN] at hx; simp only [List.length_cons, ih vs x hx]
    cases hd : dropN m vs with
    | nil => rw [hd] at e'; cases e'
    | cons x t =>
      cases t with
      | nil => exact key m vs x hd
      | cons y t => rw [hd] at e'; cases e'

theorem growV_sim {sz bytes need : Nat} {old new : List AV} (e : growV sz bytes need old new j cx l fr h = some out) : ∃ v h', growA h old new need sz bytes = some (v, h') ∧ j v cx l fr h' = some out := by
  rcases boolRec_some e with ⟨h1, e⟩ | ⟨_, e⟩
  · obtain ⟨i, h', h2, e⟩ := newH_some e
    refine ⟨_, h', ?_, e⟩
    rw [appL_eq] at h2
    have h1' : Nat.ble (need * bytes) roomN = true := h1
    simp only [growA, h1', newCells, h2]
  · cases e

theorem appTo_sim {info : TypeInfo} (hsz : 0 < info.size) {s : AV} {n : Nat} {new : List AV} {gen : I ω} (e : appTo info.size info.bytes s n new gen j cx l fr h = some out) :
    gen.run cx l fr h = some out ∨ ∃ v h', appendTo info s n new h = some (v, h') ∧ j v cx l fr h' = some out := by
  unfold appTo at e
  split at e
  · right
    cases n with
    | zero => exact ⟨.nilslice, h, rfl, e⟩
    | succ m =>
      obtain ⟨v, h', h1, h2⟩ := growV_sim e
      exact ⟨v, h', h1, h2⟩
  · rename_i b o len sz'
    cases n with
    | zero => exact .inl e
    | succ m =>
      rcases boolRec_some e with ⟨h1, e⟩ | ⟨_, e⟩
      · obtain ⟨vs, hb, e⟩ := ownE_some e
        rcases boolRec_some e with ⟨h2, e⟩ | ⟨_, e⟩
        · rcases boolRec_some e with ⟨h3, e⟩ | ⟨_, e⟩
          · right
            obtain ⟨v, h', h4, h5⟩ := growV_sim e
            rw [getH_eq] at hb
            have hl : vs.length = o + len * info.size := endsAt_true h2
            have hc := allF_true h3
            refine ⟨v, h', ?_, h5⟩
            rw [setH_eq, dropF_eq] at h4
            have hlt : Nat.ble (o + (len + (m + 1)) * info.size) vs.length = false := by
              cases hq : Nat.ble (o + (len + (m + 1)) * info.size) vs.length with
              | false => rfl
              | true =>
                have := Nat.le_of_ble_eq_true hq
                rw [hl, Nat.add_mul, Nat.add_mul] at this
                omega
            have heq : Nat.beq (o + len * info.size) vs.length = true := by rw [hl]; exact Nat.beq_refl _
            simp only [appendTo, hb, h1, hlt, heq, hc]
            exact h4
          · cases e
        · exact .inl e
      · exact .inl e
  · exact .inl e

theorem appV_sim {ts tx elem : Nat} {info : TypeInfo} {z : List AV} (h1 : T.underlying ts = some (.slice elem)) (h2 : T.info? elem = some info) (h3 : F.zeroT T elem = some z) (h4 : F.isIntT T tx = false)
    (h5 : Nat.beq z.length info.size = true) (h6 : Nat.blt 0 info.size = true) (h7 : Nat.blt 0 info.bytes = true) {s x : AV} {gen : I ω} (e : appV info.size info.bytes gen s x j cx l fr h = some out) :
    gen.run cx l fr h = some out ∨ ∃ v h', F.appendA T ts tx s x h = some (v, h') ∧ j v cx l fr h' = some out := by
  unfold appV at e
  split at e
  · rename_i b o n c
    obtain ⟨own, vs, hb, e⟩ := cellsE_some e
    rw [getH_eq] at hb
    rw [dropF_eq, C.takeC_eq] at e
    cases hd : takeN (Nat.mul n info.size) (dropN o vs) with
    | none => rw [hd] at e; cases e
    | some new =>
      rw [hd] at e
      rcases appTo_sim (Nat.blt_eq.mp h6) e with e | ⟨v, h', k1, k2⟩
      · exact .inl e
      · refine .inr ⟨v, h', ?_, k2⟩
        have hd' : takeN (n * info.size) (dropN o vs) = some new := hd
        simp only [F.appendA, h1, h2, h3, h5, h6, h7, F.appSrc, h4, srcA, load_of hb, hd']
        exact k1
  · exact .inl e

theorem zipP_map {ps : List (Nat × Operand)} (ev : Operand → AV) : zipP ps ((ps.map (·.2)).map ev) = ps.map fun p => (p.1, ev p.2) := by
  induction ps with
  | nil => rfl
  | cons p ps ih => simp only [List.map_cons, zipP, ih]

end Go.Ab.E

/- An operation made ready gives what the evaluator gives. -/
namespace Go.Ab.E
open Go.Ab

variable {ω : Type} {T : F.Tb} {ev : Operand → AV} {j : JF ω} {cx : Cx ω} {l : Loc} {fr : Fr} {h : AH} {out : ω} {acc : Operand → XA}

theorem mem1 {x : Operand} : x ∈ (#[x] : Array Operand) := by simp
theorem mem21 {x y : Operand} : x ∈ (#[x, y] : Array Operand) := by simp
theorem mem22 {x y : Operand} : y ∈ (#[x, y] : Array Operand) := by simp

theorem mkOp_sim (o : Op) (hacc : ∀ x ∈ o.operands, (acc x).run l fr = ev x) (e : (mkOp T o acc j).run cx l fr h = some out) : Gives T o ev j cx l fr h out := by
  cases o
  case move x =>
    have hx := hacc x mem1
    simp only [mkOp] at e
    generalize acc x = a at hx e
    cases a
    exact ⟨ev x, h, rfl, by rw [← hx]; exact e⟩
  case assign x =>
    have hx := hacc x mem1
    simp only [mkOp] at e
    generalize acc x = a at hx e
    cases a
    exact ⟨ev x, h, rfl, by rw [← hx]; exact e⟩
  case pick c a b =>
    have hc := hacc c (by simp [Op.operands])
    have ha := hacc a (by simp [Op.operands])
    have hb := hacc b (by simp [Op.operands])
    simp only [mkOp] at e
    generalize acc c = c', acc a = a', acc b = b' at ha hb hc e
    cases c'; cases a'; cases b'
    simp only at ha hb hc e
    rw [ha, hb, hc] at e
    obtain ⟨q, hq, e1⟩ := boolE_some e
    refine ⟨_, h, ?_, e1⟩
    simp only [F.opG, hq]
    cases q <;> rfl
  case alloc t =>
    simp only [mkOp] at e
    split at e
    · rename_i z hz
      obtain ⟨i, h', h1, h2⟩ := newH_some (show newH h (.cells true z) (fun i h' => j (.ptr i 0) cx l fr h') = some out from e)
      refine ⟨_, h', ?_, h2⟩
      simp only [F.opG, F.makeG, hz, newB, h1]
    · cases e
  case box t x =>
    have hx := hacc x mem1
    simp only [mkOp, in1_run, hx] at e
    rcases boolRec_some e with ⟨hv, e1⟩ | ⟨_, e1⟩
    · obtain ⟨i, h', h1, h2⟩ := newH_some e1
      refine ⟨_, h', ?_, h2⟩
      simp only [F.opG, F.makeG, (cellE_true hv).1, newB, h1]
    · obtain ⟨v, h', h1, h2⟩ := on1_sim hx e1
      exact ⟨v, h', h1, h2⟩
  case build t parts =>
    have hl := la_run (l := l) (fr := fr) (acc := acc) (ev := ev) (parts.toList.map (·.2)) (fun x hx => hacc x (by simpa [Op.operands] using hx))
    simp only [mkOp] at e
    obtain ⟨v, h', h1, h2⟩ := onL_sim hl e
    simp only [zipP_map] at h1
    exact ⟨v, h', h1, h2⟩
  case buildSlice t len parts =>
    have hl := la_run (l := l) (fr := fr) (acc := acc) (ev := ev) (parts.toList.map (·.2)) (fun x hx => hacc x (by simpa [Op.operands] using hx))
    have gen : ∀ {n : Nat} {ps : List (Nat × Operand)}, ps = parts.toList → n = len → (onL (la acc (ps.map (·.2))) (fun vs h => newB h (F.buildSliceA T t n (zipP ps vs))) j).run cx l fr h = some out → Gives T (.buildSlice t len parts) ev j cx l fr h out := by
      intro n ps hps hn e0
      subst hps; subst hn
      obtain ⟨v, h', h1, h2⟩ := onL_sim hl e0
      simp only [zipP_map] at h1
      exact ⟨v, h', h1, h2⟩
    simp only [mkOp] at e
    split at e
    · rename_i elem x hu hp
      have hx : (acc x).run l fr = ev x := hacc x (by simp [Op.operands, hp])
      split at e
      · rename_i z hsz hz
        rw [in1_run, hx] at e
        rcases boolRec_some e with ⟨hv, e1⟩ | ⟨_, e1⟩
        · obtain ⟨i, h', h1, h2⟩ := newH_some e1
          refine ⟨_, h', ?_, h2⟩
          have hs : splice (0 * 1) [ev x] (repl 1 [z]) = some [ev x] := rfl
          have hb : F.buildSliceA T t 1 [(0, ev x)] = some (.cells true [ev x], fun i => .slice i 0 1 (.is 1)) := by
            simp only [F.buildSliceA, hu, hsz, hz, List.length_cons, List.length_nil, fillA, (cellE_true hv).1, hs]
            rfl
          simp only [F.opG, F.makeG, hp, List.map_cons, List.map_nil, hb, newB, h1]
        · exact gen hp.symm rfl e1
      · exact gen hp.symm rfl e
    · exact gen rfl rfl e
  case load t x =>
    have hx := hacc x mem1
    simp only [mkOp] at e
    split at e
    · rename_i ht
      rw [in1_run, hx] at e
      obtain ⟨b, o, v, h1, h2, h3⟩ := loadS_sim ht e
      exact ⟨v, h, by simp only [F.opG, h1, h2, ok1], h3⟩
    · rename_i ht
      split at e
      · rename_i n hn
        rw [in1_run, hx] at e
        obtain ⟨b, o, v, h1, h2, h3⟩ := loadM_sim ht hn e
        exact ⟨v, h, by simp only [F.opG, h1, h2, ok1], h3⟩
      · cases e
    · cases e
  case store t x y =>
    have hx := hacc x mem21
    have hy := hacc y mem22
    have gen : (on2 (acc x) (acc y) (storeG T t) j).run cx l fr h = some out → Gives T (.store t x y) ev j cx l fr h out := fun e => by
      obtain ⟨v, h', h1, h2⟩ := on2_sim hx hy e
      refine ⟨v, h', ?_, h2⟩
      simp only [F.opG]
      revert h1
      cases ev x <;> exact id
    simp only [mkOp] at e
    split at e
    · rename_i ht
      rw [in2_run, hx, hy] at e
      rcases storeS_sim ht e with e | ⟨b, o, h', h1, h2, h3⟩
      · exact gen e
      · exact ⟨.undef, h', by simp only [F.opG, h1, h2, okU], h3⟩
    · exact gen e
  case nilCheck x =>
    have hx := hacc x mem1
    simp only [mkOp, in1_run, hx] at e
    rcases boolRec_some e with ⟨hv, e1⟩ | ⟨_, e1⟩
    · exact ⟨ev x, h, by simp only [F.opG, someE_true hv, ok1], e1⟩
    · cases e1
  case binOp op t x y u =>
    have hx := hacc x mem21
    have hy := hacc y mem22
    have gen : (on2 (acc x) (acc y) (fun a b h => ok1 h (F.binOpA T op t a b)) j).run cx l fr h = some out → Gives T (.binOp op t x y u) ev j cx l fr h out := fun e => by
      obtain ⟨v, h', h1, h2⟩ := on2_sim hx hy e
      exact ⟨v, h', h1, h2⟩
    simp only [mkOp] at e
    split at e
    · split at e
      · rename_i b hb
        cases b
        simp only [in2_run, hx, hy] at e
        obtain ⟨v, h1, h2⟩ := arith2_sim (T := T) hb (t := t) e
        exact ⟨v, h, by simp only [F.opG, h1, ok1], h2⟩
      · split at e
        · rename_i b hb
          cases b
          simp only [in2_run, hx, hy] at e
          obtain ⟨v, h1, h2⟩ := shift2_sim (T := T) hb (t := t) e
          exact ⟨v, h, by simp only [F.opG, h1, ok1], h2⟩
        · exact gen e
    · exact gen e
  case unOp op t x =>
    have hx := hacc x mem1
    cases op
    case not =>
      simp only [mkOp, in1_run, hx] at e
      obtain ⟨b, hb, e1⟩ := boolE_some e
      exact ⟨_, h, by simp only [F.opG, hb, unOpA, ok1, notF_eq], e1⟩
    all_goals
      simp only [mkOp] at e
      obtain ⟨v, h', h1, h2⟩ := on1_sim hx e
      exact ⟨v, h', h1, h2⟩
  case convert s d x =>
    have hx := hacc x mem1
    simp only [mkOp] at e
    split at e
    · rename_i k hs hus hud
      rw [in1_run, hx] at e
      obtain ⟨k', z, hz, e1⟩ := intE_some e
      refine ⟨_, h, ?_, e1⟩
      simp only [F.opG, hs, F.convertA, hus, hud, hz, wrapF_eq, ok1]
    · obtain ⟨v, h', h1, h2⟩ := on1_sim hx e
      exact ⟨v, h', h1, h2⟩
  case sliceToArrayPointer t x =>
    have hx := hacc x mem1
    simp only [mkOp] at e
    obtain ⟨v, h', h1, h2⟩ := on1_sim hx e
    exact ⟨v, h', h1, h2⟩
  case makeInterface t x =>
    have hx := hacc x mem1
    simp only [mkOp] at e
    split at e
    · cases e
    · rename_i d hd1 hd2
      obtain ⟨v, h', h1, h2⟩ := on1_sim hx e
      refine ⟨v, h', ?_, h2⟩
      simp only [F.opG, hd2]
      exact h1
    · cases e
  case makeFunc fn first cap =>
    cases fn
    case func f =>
      simp only [mkOp] at e
      obtain ⟨v, h', h1, h2⟩ := onLL_sim (la_run (ev := ev) first.toList fun x hx => hacc x (by simp only [Op.operands, Array.mem_append]; exact .inl (by simpa using hx))) (la_run (ev := ev) cap.toList fun x hx => hacc x (by simp only [Op.operands, Array.mem_append]; exact .inr (by simpa using hx))) e
      exact ⟨v, h', h1, h2⟩
    all_goals (simp only [mkOp] at e; cases e)
  case makeMap t r =>
    cases r with
    | none =>
      simp only [mkOp] at e
      split at e
      · rename_i k v hu
        obtain ⟨i, h', h1, h2⟩ := newH_some (show newH h (.map [] 0) (fun i h' => j (.map i) cx l fr h') = some out from e)
        exact ⟨_, h', by simp only [F.opG, F.makeG, hu, newB, h1], h2⟩
      · cases e
    | some x =>
      have hx := hacc x (by simp [Op.operands])
      simp only [mkOp] at e
      split at e
      · rename_i k v hu
        obtain ⟨v, h', h1, h2⟩ := on1_sim hx e
        refine ⟨v, h', ?_, h2⟩
        simp only [F.opG, F.makeG, hu]
        exact h1
      · cases e
  case makeSlice t a b =>
    simp only [mkOp] at e
    obtain ⟨v, h', h1, h2⟩ := on2_sim (hacc a mem21) (hacc b mem22) e
    exact ⟨v, h', h1, h2⟩
  case slice t x lo hi mx =>
    simp only [mkOp] at e
    obtain ⟨v, h', h1, h2⟩ := onS_sim (hacc x (by simp [Op.operands])) (oa_run (ev := ev) lo fun y hy => hacc y (by simp only [Op.operands, Array.mem_append]; exact .inl (.inl (.inr hy))))
      (oa_run (ev := ev) hi fun y hy => hacc y (by simp only [Op.operands, Array.mem_append]; exact .inl (.inr hy))) (oa_run (ev := ev) mx fun y hy => hacc y (by simp only [Op.operands, Array.mem_append]; exact .inr hy)) e
    exact ⟨v, h', h1, h2⟩
  case fieldAddr t x f =>
    have hx := hacc x mem1
    simp only [mkOp] at e
    split at e
    · rename_i fields hu
      split at e
      · rename_i fd hf
        split at e
        · rename_i n hn
          rw [in1_run, hx] at e
          obtain ⟨b, o, h1, h2⟩ := ptrE_some e
          exact ⟨_, h, by simp only [F.opG, F.fieldAddrA, hu, h1, hf, hn, ok1]; rfl, h2⟩
        · cases e
      · cases e
    · cases e
  case field t x f =>
    simp only [mkOp] at e
    obtain ⟨v, h', h1, h2⟩ := on1_sim (hacc x mem1) e
    exact ⟨v, h', h1, h2⟩
  case indexAddr t x i =>
    have hx := hacc x mem21
    have hi := hacc i mem22
    simp only [mkOp] at e
    split at e
    · rename_i elem hu
      split at e
      · rename_i sz hsz
        rw [in2_run, hx, hi] at e
        obtain ⟨b, o, len, c, h1, e1⟩ := sliceE_some e
        obtain ⟨k, z, h2, e2⟩ := intE_some e1
        obtain ⟨n, h3, e3⟩ := natE_some e2
        rcases boolRec_some e3 with ⟨h4, e4⟩ | ⟨_, e4⟩
        · have h4' : Nat.blt n len = true := h4
          refine ⟨_, h, ?_, e4⟩
          simp only [F.opG, F.indexAddrA, h2, h3, natOf, hu, h1, h4', hsz, ok1]; rfl
        · cases e4
      · cases e
    · rename_i len elem hu
      split at e
      · rename_i sz hsz
        rw [in2_run, hx, hi] at e
        obtain ⟨b, o, h1, e1⟩ := ptrE_some e
        obtain ⟨k, z, h2, e2⟩ := intE_some e1
        obtain ⟨n, h3, e3⟩ := natE_some e2
        rcases boolRec_some e3 with ⟨h4, e4⟩ | ⟨_, e4⟩
        · have h4' : Nat.blt n len = true := h4
          refine ⟨_, h, ?_, e4⟩
          simp only [F.opG, F.indexAddrA, h2, h3, natOf, hu, h1, h4', hsz, ok1]; rfl
        · cases e4
      · cases e
    · cases e
  case index t x i =>
    simp only [mkOp] at e
    obtain ⟨v, h', h1, h2⟩ := on2_sim (hacc x mem21) (hacc i mem22) e
    exact ⟨v, h', h1, h2⟩
  case lookup t x k ok =>
    simp only [mkOp] at e
    obtain ⟨v, h', h1, h2⟩ := on2_sim (hacc x mem21) (hacc k mem22) e
    exact ⟨v, h', h1, h2⟩
  case mapUpdate t m k v =>
    simp only [mkOp] at e
    obtain ⟨w, h', h1, h2⟩ := onL_sim (la_run (ev := ev) [m, k, v] fun x hx => hacc x (by simpa [Op.operands] using hx)) e
    exact ⟨w, h', h1, h2⟩
  case insert t m k v =>
    simp only [mkOp] at e
    obtain ⟨w, h', h1, h2⟩ := onL_sim (la_run (ev := ev) [m, k, v] fun x hx => hacc x (by simpa [Op.operands] using hx)) e
    exact ⟨w, h', h1, h2⟩
  case range t x =>
    simp only [mkOp] at e
    obtain ⟨v, h', h1, h2⟩ := on1_sim (hacc x mem1) e
    exact ⟨v, h', h1, h2⟩
  case next x s =>
    simp only [mkOp] at e
    obtain ⟨v, h', h1, h2⟩ := on1_sim (hacc x mem1) e
    exact ⟨v, h', h1, h2⟩
  case entry x =>
    simp only [mkOp] at e
    obtain ⟨v, h', h1, h2⟩ := on1_sim (hacc x mem1) e
    exact ⟨v, h', h1, h2⟩
  case extract x i =>
    have hx := hacc x mem1
    simp only [mkOp, in1_run, hx] at e
    obtain ⟨vs, h1, e1⟩ := tupE_some e
    obtain ⟨v, r, h2, e2⟩ := headE_some e1
    refine ⟨v, h, ?_, e2⟩
    have : vs[i]? = some v := by
      rw [C.dropC_eq] at h2
      have key : ∀ (n : Nat) (vs : List AV), dropN n vs = v :: r → vs[n]? = some v := by
        intro n
        induction n with
        | zero => intro vs hv; simp only [dropN] at hv; subst hv; rfl
        | succ n ih => intro vs hv; cases vs with
          | nil => simp [dropN] at hv
          | cons w vs => simp only [dropN] at hv; simpa using ih vs hv
      exact key i vs h2
    simp only [F.opG, h1, extractA, this, ok1]
  case call c =>
    obtain ⟨callee, args, ats⟩ := c
    cases callee
    case builtin b =>
      have hl := la_run (l := l) (fr := fr) (acc := acc) (ev := ev) args.toList (fun x hx => hacc x (by simp only [Op.operands, Call.operands, Array.empty_append]; simpa using hx))
      have gen : (onL (la acc args.toList) (F.builtinA T b ats.toList) j).run cx l fr h = some out → Gives T (.call ⟨.builtin b, args, ats⟩) ev j cx l fr h out := fun e => by
        obtain ⟨v, h', h1, h2⟩ := onL_sim hl e
        exact ⟨v, h', h1, h2⟩
      have memA : ∀ x, x ∈ args.toList → (acc x).run l fr = ev x := fun x hx => hacc x (by simp only [Op.operands, Call.operands, Array.empty_append]; simpa using hx)
      cases b
      case len =>
        simp only [mkOp] at e
        split at e
        · rename_i x t ha ht
          split at e
          · rename_i el hu
            rw [in1_run, memA x (by rw [ha]; simp)] at e
            obtain ⟨n, e1, hn⟩ := slenE_some e
            refine ⟨_, h, ?_, e1⟩
            simp only [F.opG, ha, ht, List.map_cons, List.map_nil, F.builtinA, F.lenA, hu]
            rcases hn with ⟨h1, rfl⟩ | ⟨b, o, c, h1⟩ <;> rw [h1] <;> rfl
          · exact gen e
        · exact gen e
      case append =>
        simp only [mkOp] at e
        split at e
        · rename_i s x ts tx ha ht
          have hs := memA s (by rw [ha]; simp)
          have hx := memA x (by rw [ha]; simp)
          have gen2 : (on2 (acc s) (acc x) (F.appendA T ts tx) j).run cx l fr h = some out → Gives T (.call ⟨.builtin .append, args, ats⟩) ev j cx l fr h out := fun e => by
            obtain ⟨v, h', h1, h2⟩ := on2_sim hs hx e
            exact ⟨v, h', by simp only [F.opG, ha, ht, List.map_cons, List.map_nil, F.builtinA]; exact h1, h2⟩
          split at e
          · rename_i elem hu
            split at e
            · rename_i info z hi hz hint
              split at e
              · rename_i h5 h6 h7
                rw [in2_run, hs, hx] at e
                rcases appV_sim hu hi hz hint h5 h6 h7 e with e | ⟨v, h', h1, h2⟩
                · exact gen2 e
                · exact ⟨v, h', by simp only [F.opG, ha, ht, List.map_cons, List.map_nil, F.builtinA]; exact h1, h2⟩
              · cases e
            · exact gen2 e
          · cases e
        · exact gen e
      all_goals (simp only [mkOp] at e; exact gen e)
    all_goals (simp only [mkOp] at e; cases e)
  all_goals (simp only [mkOp] at e; cases e)

end Go.Ab.E

/- A region made ready does what the evaluator does. -/
namespace Go.Ab.E
open Go.Ab

variable {ω : Type}

/-- Calls that come to as much. -/
def CallSim (c1 c2 : CallH ω) (out : ω) : Prop :=
  ∀ (g : Nat) (args : List AV) (h : AH) (k1 k2 : KV ω), (∀ v h', k1 v h' = some out → k2 v h' = some out) → c1 g args h k1 = some out → c2 g args h k2 = some out

/-- A frame, and the evaluator's. -/
structure FrR (env : List Nat) (fr : Fr) (a : AF) : Prop where
  ds : a.ds = fr.ds
  val : ∀ t s, slotOf env t = some s → t < 512 → a.env.get t = fr.get s

/-- The names of a region's own temporaries. -/
structure NmR (env : List Nat) (names : List (Nat × Src)) (depth : Nat) (rest : List Oper) (l : Loc) (a : AF) : Prop where
  known : ∀ t s, findS t names = some s → t < 512 ∧ slotOf env t = none
  loc : ∀ t i, findS t names = some (.loc i) → i < depth ∧ a.env.get t = nthA l (depth - 1 - i)
  as : ∀ t y, findS t names = some (.as y) → a.env.get t = opv a.env y ∧ ∀ u, y = .tmp u → notDst u rest = true ∧ slotOf env u ≠ none

/-! ### places -/

theorem posIn_inj {t u : Nat} : ∀ {l : List Nat} {i k : Nat}, posIn t l i = some k → posIn u l i = some k → t = u
  | [], _, _, h, _ => by cases h
  | x :: l, i, k, h, h' => by
    simp only [posIn] at h h'
    have le : ∀ {v : Nat} {l : List Nat} {i k : Nat}, posIn v l i = some k → i ≤ k := by
      intro v l
      induction l with
      | nil => intro i k h; cases h
      | cons x l ih =>
        intro i k h
        simp only [posIn] at h
        split at h
        · cases h; exact Nat.le_refl _
        · exact Nat.le_of_succ_le (ih h)
    split at h
    · rename_i h1
      cases h
      split at h'
      · rename_i h2
        rw [Nat.eq_of_beq_eq_true h1, Nat.eq_of_beq_eq_true h2]
      · have := le h'; omega
    · split at h'
      · cases h'
        have := le h; omega
      · exact posIn_inj h h'

def Sl.no : Sl → Nat
  | .a0 => 0 | .a1 => 1 | .a2 => 2 | .a3 => 3
  | .b0 dd => 4 + dd.toNat | .b1 dd => 12 + dd.toNat | .b2 dd => 20 + dd.toNat
  | .c dd ee => 28 + dd.toNat * 8 + ee.toNat

theorem slotNo_no {i : Nat} {s : Sl} (h : slotNo i = some s) : s.no = i := by
  unfold slotNo at h
  split at h
  · cases h; rfl
  · cases h; rfl
  · cases h; rfl
  · cases h; rfl
  · rename_i h0 h1 h2 h3
    have h0 : i ≠ 0 := fun e => h0 e
    have h1 : i ≠ 1 := fun e => h1 e
    have h2 : i ≠ 2 := fun e => h2 e
    have h3 : i ≠ 3 := fun e => h3 e
    split at h
    · rename_i hb; have := Nat.blt_eq.mp hb; cases h; simp only [Sl.no]; rw [D8.dig_toNat (by omega)]; omega
    · rename_i hb
      have hb' : ¬ i < 12 := fun e => by rw [Nat.blt_eq.mpr e] at hb; cases hb
      split at h
      · rename_i hc; have := Nat.blt_eq.mp hc; cases h; simp only [Sl.no]; rw [D8.dig_toNat (by omega)]; omega
      · rename_i hc
        have hc' : ¬ i < 20 := fun e => by rw [Nat.blt_eq.mpr e] at hc; cases hc
        split at h
        · rename_i hd; have := Nat.blt_eq.mp hd; cases h; simp only [Sl.no]; rw [D8.dig_toNat (by omega)]; omega
        · rename_i hd
          have hd' : ¬ i < 28 := fun e => by rw [Nat.blt_eq.mpr e] at hd; cases hd
          split at h
          · rename_i he; have := Nat.blt_eq.mp he; cases h; simp only [Sl.no]; rw [D8.dig_toNat (by omega), D8.dig_toNat (by omega)]; omega
          · cases h

theorem slotOf_inj {env : List Nat} {t u : Nat} {s : Sl} (h : slotOf env t = some s) (h' : slotOf env u = some s) : t = u := by
  unfold slotOf at h h'
  split at h
  · rename_i i hi
    split at h'
    · rename_i k hk
      have := (slotNo_no h).symm.trans (slotNo_no h')
      subst this
      exact posIn_inj hi hk
    · cases h'
  · cases h

/-! ### readers -/

variable {env : List Nat} {fr : Fr} {a : AF} {names : List (Nat × Src)} {depth : Nat} {o : Oper} {os : List Oper}

theorem baseX_run (R : FrR env fr a) {x : Operand} {xa : XA} (h : baseX env x = some xa) (l : Loc) : xa.run l fr = opv a.env x := by
  cases x with
  | tmp t =>
    simp only [baseX] at h
    split at h
    · rename_i ht
      split at h
      · rename_i s hs
        cases h
        rw [getX_eq]
        simp only [opv, ht]
        exact (R.val t s hs (Nat.blt_eq.mp ht)).symm
      · cases h
    · cases h
  | const v => cases h; rfl
  | global g =>
    simp only [baseX] at h
    split at h
    · rename_i hg; cases h; simp only [opv, hg]
    · rename_i hg; cases h; simp only [opv, hg]
  | func f => cases h; rfl

theorem resolve_run (R : FrR env fr a) {names : List (Nat × Src)} {depth : Nat} {rest : List Oper} {l : Loc} (N : NmR env names depth rest l a) {x : Operand} {xa : XA} (h : resolve env names depth x = some xa) : xa.run l fr = opv a.env x := by
  cases x with
  | tmp t =>
    simp only [resolve] at h
    split at h
    · rename_i i hf
      split at h
      · rename_i hi ht
        cases h
        rw [locX_eq]
        simp only [opv, ht]
        exact (N.loc t i hf).2.symm
      · cases h
    · rename_i y hf
      rw [baseX_run R h l]
      obtain ⟨h1, _⟩ := N.as t y hf
      obtain ⟨h2, _⟩ := N.known t _ hf
      simp only [opv, Nat.blt_eq.mpr h2] at h1 ⊢
      exact h1.symm
    · exact baseX_run R h l
  | const v => exact baseX_run R (by simpa only [resolve] using h) l
  | global g => exact baseX_run R (by simpa only [resolve] using h) l
  | func f => exact baseX_run R (by simpa only [resolve] using h) l

theorem allRes_acc (R : FrR env fr a) {names : List (Nat × Src)} {depth : Nat} {rest : List Oper} {l : Loc} (N : NmR env names depth rest l a) : ∀ {xs : List Operand}, allRes env names depth xs = true → ∀ x ∈ xs, (accOf env names depth x).run l fr = opv a.env x
  | [], _, x, hx => by cases hx
  | y :: ys, h, x, hx => by
    simp only [allRes] at h
    split at h
    · rename_i xa hy
      rcases List.mem_cons.1 hx with rfl | hx
      · simp only [accOf, hy]
        exact resolve_run R N hy
      · exact allRes_acc R N h x hx
    · cases h

/-! ### one operation -/

variable {T : F.Tb} {call : CallH ω} {cx : Cx ω} {l : Loc} {h : AH} {out : ω} {j : JF ω} {acc : Operand → XA}

theorem mkOper_sim (hc : CallSim (Cx.call cx) call out) {n : Nat} {o : Oper} {k : AF → AH → Option ω} (R : FrR env fr a) (hacc : ∀ x ∈ o.op.operands, (acc x).run l fr = opv a.env x)
    (hj : ∀ v fr1 a1 h', a1.env = a.env → FrR env fr1 a1 → fr1 = { fr with ds := fr1.ds } → j v cx l fr1 h' = some out → AF.put n a1 o.dst v (fun a' => k a' h') = some out)
    (e : (mkOper T o.op acc j).run cx l fr h = some out) : F.operA T call n o a h k = some out := by
  obtain ⟨dst, op, ty, pos, after, guard⟩ := o
  simp only at hacc hj e
  have gen : (mkOp T op acc j).run cx l fr h = some out → (∃ v h', F.opA T op a.env h = some (v, h') ∧ AF.put n a dst v (fun a' => k a' h') = some out) := fun e => by
    obtain ⟨v, h', h1, h2⟩ := mkOp_sim (ev := opv a.env) op hacc e
    exact ⟨v, h', by rw [← F.opG_eq]; exact h1, hj v fr a h' rfl R rfl h2⟩
  cases op
  case call c =>
    obtain ⟨callee, args, ats⟩ := c
    cases callee with
    | value f =>
      simp only [mkOper] at e
      simp only [F.operA, F.operV]
      have hargs : ∀ x ∈ args.toList, (acc x).run l fr = opv a.env x := fun x hx => hacc x (by simp only [Op.operands, Call.operands, Array.mem_append]; exact .inr (by simpa using hx))
      have hf : (acc f).run l fr = opv a.env f := hacc f (by simp [Op.operands, Call.operands])
      have hla := la_run args.toList hargs
      have gen2 : (fnE ((acc f).run l fr) fun g first cap => Cx.call cx g (first ++ (la acc args.toList).run l fr ++ cap) h fun v h' => j v cx l fr h') = some out →
          (match opv a.env f with | .fn g first cap => call g (first ++ args.toList.map (opv a.env) ++ cap) h (fun v h' => AF.put n a dst v fun a' => k a' h') | _ => none) = some out := fun e => by
        obtain ⟨g, first, cap, h1, e1⟩ := fnE_some e
        rw [hf] at h1
        rw [h1]
        rw [hla] at e1
        exact hc g _ h _ _ (fun v h' hv => hj v fr a h' rfl R rfl hv) e1
      cases f with
      | func g =>
        simp only [mkCall] at e
        generalize hlq : la acc args.toList = lq at e hla
        cases lq
        simp only at e hla
        rw [hla] at e
        simp only [opv, List.nil_append, List.append_nil]
        exact hc g _ h _ _ (fun v h' hv => hj v fr a h' rfl R rfl hv) e
      | tmp t => exact gen2 e
      | const v => exact gen2 e
      | global g => exact gen2 e
    | builtin b =>
      obtain ⟨v, h', h1, h2⟩ := gen (by simpa only [mkOper] using e)
      simp only [F.operA, F.operV, h1]
      exact h2
    | invoke r m =>
      obtain ⟨v, h', h1, h2⟩ := gen (by simpa only [mkOper] using e)
      simp only [F.operA, F.operV, h1]
      exact h2
  case defer c =>
    obtain ⟨callee, args, ats⟩ := c
    cases callee with
    | value f =>
      simp only [mkOper, mkDefer] at e
      have hargs : ∀ x ∈ args.toList, (acc x).run l fr = opv a.env x := fun x hx => hacc x (by simp only [Op.operands, Call.operands, Array.mem_append]; exact .inr (by simpa using hx))
      have hf : (acc f).run l fr = opv a.env f := hacc f (by simp [Op.operands, Call.operands])
      have hla := la_run args.toList hargs
      obtain ⟨g, first, cap, h1, e1⟩ := fnE_some e
      rw [hf] at h1
      rw [hla] at e1
      obtain ⟨env', ds'⟩ := a
      obtain ⟨a0, a1, a2, a3, b0, b1, b2, c, ds⟩ := fr
      have hds : ds' = ds := R.ds
      simp only [F.operA, h1]
      exact hj _ ⟨a0, a1, a2, a3, b0, b1, b2, c, (g, first ++ args.toList.map (opv env') ++ cap) :: ds⟩ ⟨env', (g, first ++ args.toList.map (opv env') ++ cap) :: ds'⟩ h rfl ⟨by rw [hds], fun t s hs ht => (R.val t s hs ht).trans (by cases s <;> rfl)⟩ rfl e1
    | builtin b =>
      obtain ⟨v, h', h1, h2⟩ := gen (by simpa only [mkOper] using e)
      simp only [F.operA, F.operV, h1]
      exact h2
    | invoke r m =>
      obtain ⟨v, h', h1, h2⟩ := gen (by simpa only [mkOper] using e)
      simp only [F.operA, F.operV, h1]
      exact h2
  all_goals
    obtain ⟨v, h', h1, h2⟩ := gen (by simpa only [mkOper] using e)
    simp only [F.operA, F.operV, h1]
    exact h2

/-! ### regions -/

theorem gE_some {R : Type} {x : AV} {f : Bool → Option R} {r : Option R} {out : R} (h : gE x f r = some out) : (∃ b, x = .bool b ∧ f b = some out) ∨ (x ≠ .top ∧ (∀ b, x ≠ .bool b) ∧ r = some out) := by
  cases x
  case top => cases h
  case bool b => exact .inl ⟨b, rfl, h⟩
  all_goals exact .inr ⟨(by intro e; cases e), (by intro b e; cases e), h⟩

theorem NmR.rest (N : NmR env names depth (o :: os) l a) : NmR env names depth os l a :=
  ⟨N.known, N.loc, fun t y hy => by
    obtain ⟨h1, h2⟩ := N.as t y hy
    refine ⟨h1, fun u hu => ?_⟩
    obtain ⟨h3, h4⟩ := h2 u hu
    refine ⟨?_, h4⟩
    simp only [notDst] at h3
    split at h3
    · split at h3
      · cases h3
      · exact h3
    · exact h3⟩

/-- One temporary of the region's own is put. -/
theorem NmR.keep {n : Nat} (N : NmR env names depth (o :: os) l a) {t : Nat} (ht : t < 512) (hs : slotOf env t = none) (v : AV) (ds : List (Nat × List AV)) :
    NmR env ((t, .loc depth) :: names) (depth + 1) os (v :: l) ⟨a.env.set t v, ds⟩ := by
  have N' := N.rest
  have key : ∀ u, u < 512 → u ≠ t → (a.env.set t v).get u = a.env.get u := fun u hu hne => by rw [Env.get_set _ _ ht hu, if_neg hne]
  refine ⟨fun u s hu => ?_, fun u i hu => ?_, fun u y hu => ?_⟩ <;> simp only [findS] at hu
  · split at hu
    · rename_i hb
      rw [Nat.eq_of_beq_eq_true hb]
      exact ⟨ht, hs⟩
    · exact N'.known u s hu
  · split at hu
    · rename_i hb
      cases hu
      have := Nat.eq_of_beq_eq_true hb
      subst this
      refine ⟨Nat.lt_succ_self _, ?_⟩
      rw [show depth + 1 - 1 - depth = 0 by omega]
      simp only [nthA]
      rw [Env.get_set _ _ ht ht, if_pos rfl]
    · rename_i hb
      obtain ⟨h1, h2⟩ := N'.loc u i hu
      obtain ⟨h3, h4⟩ := N'.known u _ hu
      have hne : u ≠ t := fun e => by rw [e, Nat.beq_refl] at hb; cases hb
      refine ⟨Nat.lt_succ_of_lt h1, ?_⟩
      rw [show depth + 1 - 1 - i = (depth - 1 - i) + 1 by omega]
      simp only [nthA]
      rw [key u h3 hne]
      exact h2
  · split at hu
    · cases hu
    · rename_i hb
      obtain ⟨h1, h2⟩ := N'.as u y hu
      obtain ⟨h3, h4⟩ := N'.known u _ hu
      have hne : u ≠ t := fun e => by rw [e, Nat.beq_refl] at hb; cases hb
      refine ⟨?_, h2⟩
      simp only
      rw [key u h3 hne, h1]
      cases y with
      | tmp w =>
        have hw : w ≠ t := fun e => (h2 w rfl).2 (e ▸ hs)
        simp only [opv]
        split
        · rename_i hb2
          rw [key w (Nat.blt_eq.mp hb2) hw]
        · rfl
      | const c => rfl
      | global g => rfl
      | func f => rfl

/-- A temporary of the frame is put. -/
theorem NmR.frame (N : NmR env names depth (o :: os) l a) {t : Nat} (ht : t < 512) (hd : o.dst = some t) (hs : slotOf env t ≠ none) (v : AV) (ds : List (Nat × List AV)) :
    NmR env names depth os l ⟨a.env.set t v, ds⟩ := by
  have N' := N.rest
  have key : ∀ u, u < 512 → u ≠ t → (a.env.set t v).get u = a.env.get u := fun u hu hne => by rw [Env.get_set _ _ ht hu, if_neg hne]
  have hne : ∀ u s, findS u names = some s → u ≠ t := fun u s hu e => hs (e ▸ (N'.known u s hu).2)
  refine ⟨N'.known, fun u i hu => ?_, fun u y hu => ?_⟩
  · obtain ⟨h1, h2⟩ := N'.loc u i hu
    refine ⟨h1, ?_⟩
    simp only
    rw [key u (N'.known u _ hu).1 (hne u _ hu)]
    exact h2
  · obtain ⟨h1, h2⟩ := N'.as u y hu
    refine ⟨?_, h2⟩
    simp only
    rw [key u (N'.known u _ hu).1 (hne u _ hu), h1]
    cases y with
    | tmp w =>
      have hw : w ≠ t := fun e => by
        have h3 := ((N.as u _ hu).2 w rfl).1
        simp only [notDst, hd, e, Nat.beq_refl] at h3
        cases h3
      simp only [opv]
      split
      · rename_i hb2
        rw [key w (Nat.blt_eq.mp hb2) hw]
      · rfl
    | const c => rfl
    | global g => rfl
    | func f => rfl

theorem FrR.keep (R : FrR env fr a) {t : Nat} (ht : t < 512) (hs : slotOf env t = none) (v : AV) : FrR env fr ⟨a.env.set t v, a.ds⟩ :=
  ⟨R.ds, fun u s hu hlt => by
    have hne : u ≠ t := fun e => by rw [e, hs] at hu; cases hu
    simp only
    rw [Env.get_set _ _ ht hlt, if_neg hne]
    exact R.val u s hu hlt⟩

theorem FrR.frame (R : FrR env fr a) {t : Nat} {s : Sl} (ht : t < 512) (hs : slotOf env t = some s) (v : AV) : FrR env (fr.set v s) ⟨a.env.set t v, a.ds⟩ :=
  ⟨by rw [Fr.ds_set]; exact R.ds, fun u s' hu hlt => by
    simp only
    rw [Env.get_set _ _ ht hlt, Fr.get_set]
    by_cases he : u = t
    · subst he
      rw [hs] at hu; cases hu
      simp
    · rw [if_neg he]
      have : s' ≠ s := fun e => he (slotOf_inj hu (e ▸ hs))
      rw [if_neg this]
      exact R.val u s' hu hlt⟩

/-- A temporary that is another name. -/
theorem NmR.alias (N : NmR env names depth (o :: os) l a) {t : Nat} (ht : t < 512) (hs : slotOf env t = none) {x : Operand} (ho : o.op = .move x ∨ o.op = .assign x) {s : Src} (ha : aliasOf env names o.op os = some s) :
    NmR env ((t, s) :: names) depth os l ⟨a.env.set t (opv a.env x), a.ds⟩ := by
  have N' := N.rest
  obtain ⟨vx, hvx⟩ : ∃ v, v = opv a.env x := ⟨_, rfl⟩
  rw [← hvx]
  have key : ∀ u, u < 512 → u ≠ t → (a.env.set t vx).get u = a.env.get u := fun u hu hne => by rw [Env.get_set _ _ ht hu, if_neg hne]
  have keyo : ∀ y, (∀ u, y = .tmp u → slotOf env u ≠ none) → opv (a.env.set t vx) y = opv a.env y := fun y hy => by
    cases y with
    | tmp w =>
      have hw : w ≠ t := fun e => hy w rfl (e ▸ hs)
      simp only [opv]
      split
      · rename_i hb2
        rw [key w (Nat.blt_eq.mp hb2) hw]
      · rfl
    | const c => rfl
    | global g => rfl
    | func f => rfl
  have same : (a.env.set t vx).get t = opv a.env x := by rw [Env.get_set _ _ ht ht, if_pos rfl]; exact hvx
  -- what the other name says
  have hsrc : (∀ i, s = .loc i → i < depth ∧ opv a.env x = nthA l (depth - 1 - i)) ∧ (∀ y, s = .as y → opv a.env x = opv a.env y ∧ ∀ u, y = .tmp u → notDst u os = true ∧ slotOf env u ≠ none) := by
    have ha' : aliasOf env names (.move x) os = some s := by
      rcases ho with ho | ho <;> rw [ho] at ha <;> exact ha
    have plain : ∀ y : Operand, (∀ u, y ≠ .tmp u) → x = y → s = .as y → (∀ i, s = .loc i → i < depth ∧ opv a.env x = nthA l (depth - 1 - i)) ∧ (∀ y, s = .as y → opv a.env x = opv a.env y ∧ ∀ u, y = .tmp u → notDst u os = true ∧ slotOf env u ≠ none) := by
      intro y hy hx hs'
      subst hs'; subst hx
      exact ⟨(fun i h => by cases h), (fun z hz => by cases hz; exact ⟨rfl, fun u hu => absurd hu (hy u)⟩)⟩
    cases x with
    | const c => simp only [aliasOf] at ha'; cases ha'; exact plain _ (fun u e => by cases e) rfl rfl
    | global g => simp only [aliasOf] at ha'; cases ha'; exact plain _ (fun u e => by cases e) rfl rfl
    | func f => simp only [aliasOf] at ha'; cases ha'; exact plain _ (fun u e => by cases e) rfl rfl
    | tmp t1 =>
      simp only [aliasOf] at ha'
      split at ha'
      · rename_i i hf
        cases ha'
        obtain ⟨h1, h2⟩ := N'.loc t1 i hf
        obtain ⟨h3, _⟩ := N'.known t1 _ hf
        refine ⟨(fun i' h => by cases h; exact ⟨h1, by simp only [opv, Nat.blt_eq.mpr h3]; exact h2⟩), (fun y h => by cases h)⟩
      · rename_i u hf
        split at ha'
        · rename_i hn
          cases ha'
          obtain ⟨h1, h2⟩ := N'.as t1 _ hf
          obtain ⟨h3, _⟩ := N'.known t1 _ hf
          refine ⟨(fun i' h => by cases h), (fun y h => by cases h; exact ⟨by rw [← h1]; simp only [opv, Nat.blt_eq.mpr h3], (fun w hw => by cases hw; exact ⟨hn, (h2 u rfl).2⟩)⟩)⟩
        · cases ha'
      · rename_i y hy hf
        cases ha'
        obtain ⟨h1, h2⟩ := N'.as t1 _ hf
        obtain ⟨h3, _⟩ := N'.known t1 _ hf
        refine ⟨(fun i' h => by cases h), (fun z h => by cases h; exact ⟨by rw [← h1]; simp only [opv, Nat.blt_eq.mpr h3], fun w hw => absurd hw (hy w)⟩)⟩
      · rename_i hf
        split at ha'
        · rename_i s1 hs1 hn
          cases ha'
          refine ⟨(fun i' h => by cases h), (fun y h => by cases h; exact ⟨rfl, (fun w hw => by cases hw; exact ⟨hn, by rw [hs1]; simp⟩)⟩)⟩
        · cases ha'
  refine ⟨fun u s' hu => ?_, fun u i hu => ?_, fun u y hu => ?_⟩ <;> simp only [findS] at hu
  · split at hu
    · rename_i hb
      rw [Nat.eq_of_beq_eq_true hb]
      exact ⟨ht, hs⟩
    · exact N'.known u s' hu
  · split at hu
    · rename_i hb
      have := Nat.eq_of_beq_eq_true hb
      subst this
      obtain ⟨h1, h2⟩ := hsrc.1 i (by injection hu)
      exact ⟨h1, by simp only; rw [same]; exact h2⟩
    · rename_i hb
      obtain ⟨h1, h2⟩ := N'.loc u i hu
      have hne : u ≠ t := fun e => by rw [e, Nat.beq_refl] at hb; cases hb
      exact ⟨h1, by simp only; rw [key u (N'.known u _ hu).1 hne]; exact h2⟩
  · split at hu
    · rename_i hb
      have := Nat.eq_of_beq_eq_true hb
      subst this
      obtain ⟨h1, h2⟩ := hsrc.2 y (by injection hu)
      refine ⟨?_, h2⟩
      simp only
      rw [same, h1, keyo y fun w hw => (h2 w hw).2]
    · rename_i hb
      obtain ⟨h1, h2⟩ := N'.as u y hu
      have hne : u ≠ t := fun e => by rw [e, Nat.beq_refl] at hb; cases hb
      refine ⟨?_, h2⟩
      simp only
      rw [key u (N'.known u _ hu).1 hne, h1, keyo y fun w hw => (h2 w hw).2]

end Go.Ab.E
