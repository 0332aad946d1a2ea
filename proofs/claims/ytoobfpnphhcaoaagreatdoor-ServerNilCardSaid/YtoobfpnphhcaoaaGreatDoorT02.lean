import Derived.Test.YtoobfpnphhcaoaaGreatDoorT00
import Derived.Below
import Derived.Test.YtoobfpnphhcaoaaGreatDoorT01
set_option linter.unusedVariables false
set_option linter.unusedSimpArgs false
namespace Go.Ab
open Go.RowKit

/-! ### trees -/

theorem N8.get_set {α : Type} (k l : D8) (v : α) (n : N8 α) : N8.get l (N8.set k v n) = if l = k then v else N8.get l n := by
  cases n; cases k <;> cases l <;> rfl

theorem N8.get_all {α : Type} (k : D8) (v : α) : N8.get k (N8.all v) = v := by cases k <;> rfl

theorem treeSet_get {α : Type} (i j : Id) (b : Option α) (t : Tree α) :
    N8.get j.s (N8.get j.r (N8.get j.q (N8.get j.p (N8.get j.o (treeSet i b t))))) = if j = i then b else N8.get j.s (N8.get j.r (N8.get j.q (N8.get j.p (N8.get j.o t)))) := by
  obtain ⟨o, p, q, r, s⟩ := i
  obtain ⟨o', p', q', r', s'⟩ := j
  simp only [treeSet, N8.get_set, Id.mk.injEq]
  by_cases h0 : o' = o
  · subst h0
    simp only [if_true, N8.get_set, true_and]
    by_cases h1 : p' = p
    · subst h1
      simp only [if_true, N8.get_set, true_and]
      by_cases h2 : q' = q
      · subst h2
        simp only [if_true, N8.get_set, true_and]
        by_cases h3 : r' = r
        · subst h3
          simp only [if_true, N8.get_set, true_and]
        · simp [h3]
      · simp [h2]
    · simp [h1]
  · simp [h0]

theorem AH.get_set (h : AH) (i j : Id) (b : Option AB) : (h.set i b).get j = if j = i then b else h.get j := by
  cases h; exact treeSet_get i j b _

theorem AH.next_set (h : AH) (i : Id) (b : Option AB) : (h.set i b).next = h.next := by cases h; rfl

theorem AH.get_empty (i : Id) : AH.empty.get i = none := by simp [AH.empty, AH.get, N8.get_all]

theorem D8.toNat_lt (dd : D8) : dd.toNat < 8 := by cases dd <;> decide

theorem D8.toNat_inj {aa bb : D8} (h : aa.toNat = bb.toNat) : aa = bb := by cases aa <;> cases bb <;> first | rfl | (simp [D8.toNat] at h)

theorem Id.toNat_inj {a b : Id} (h : a.toNat = b.toNat) : a = b := by
  obtain ⟨o, p, q, r, s⟩ := a
  obtain ⟨o', p', q', r', s'⟩ := b
  have h0 := o.toNat_lt; have h1 := p.toNat_lt; have h2 := q.toNat_lt; have h3 := r.toNat_lt; have h4 := s.toNat_lt
  have h0' := o'.toNat_lt; have h1' := p'.toNat_lt; have h2' := q'.toNat_lt; have h3' := r'.toNat_lt; have h4' := s'.toNat_lt
  simp only [Id.toNat] at h
  have e0 : o = o' := D8.toNat_inj (by omega)
  have e1 : p = p' := D8.toNat_inj (by omega)
  have e2 : q = q' := D8.toNat_inj (by omega)
  have e3 : r = r' := D8.toNat_inj (by omega)
  have e4 : s = s' := D8.toNat_inj (by omega)
  rw [e0, e1, e2, e3, e4]

theorem D8.up_false {dd ee : D8} (h : dd.up = (ee, false)) : ee.toNat = dd.toNat + 1 := by
  cases dd <;> simp [D8.up] at h <;> subst h <;> rfl
theorem D8.up_true {dd ee : D8} (h : dd.up = (ee, true)) : ee.toNat = 0 ∧ dd.toNat = 7 := by
  cases dd <;> simp [D8.up] at h <;> subst h <;> exact ⟨rfl, rfl⟩

theorem Id.succ_toNat {i j : Id} (h : i.succ = some j) : j.toNat = i.toNat + 1 := by
  obtain ⟨o, p, q, r, s⟩ := i
  rcases hs : s.up with ⟨s', _ | _⟩
  · simp only [Id.succ, hs, Option.some.injEq] at h
    subst h
    have := D8.up_false hs
    simp only [Id.toNat]; omega
  · have hs' := D8.up_true hs
    rcases hr : r.up with ⟨r', _ | _⟩
    · simp only [Id.succ, hs, hr, Option.some.injEq] at h
      subst h
      have := D8.up_false hr
      simp only [Id.toNat]; omega
    · have hr' := D8.up_true hr
      rcases hq : q.up with ⟨q', _ | _⟩
      · simp only [Id.succ, hs, hr, hq, Option.some.injEq] at h
        subst h
        have := D8.up_false hq
        simp only [Id.toNat]; omega
      · have hq' := D8.up_true hq
        rcases hp : p.up with ⟨p', _ | _⟩
        · simp only [Id.succ, hs, hr, hq, hp, Option.some.injEq] at h
          subst h
          have := D8.up_false hp
          simp only [Id.toNat]; omega
        · have hp' := D8.up_true hp
          rcases ho : o.up with ⟨o', _ | _⟩
          · simp only [Id.succ, hs, hr, hq, hp, ho, Option.some.injEq] at h
            subst h
            have := D8.up_false ho
            simp only [Id.toNat]; omega
          · simp [Id.succ, hs, hr, hq, hp, ho] at h

theorem AH.new_spec {h h' : AH} {b : AB} {i : Id} (e : h.new b = some (i, h')) :
    i = h.next ∧ h'.next.toNat = h.next.toNat + 1 ∧ ∀ j, h'.get j = if j = i then some b else h.get j := by
  obtain ⟨t, n⟩ := h
  cases hn : n.succ with
  | none => simp [AH.new, hn] at e
  | some n' =>
    simp only [AH.new, hn, Option.some.injEq, Prod.mk.injEq] at e
    obtain ⟨rfl, rfl⟩ := e
    exact ⟨rfl, Id.succ_toNat hn, fun j => treeSet_get n j (some b) t⟩

theorem D8.dig_toNat {n : Nat} (h : n < 8) : (D8.dig n).toNat = n := by
  rcases n with _ | _ | _ | _ | _ | _ | _ | _ | n <;> first | rfl | omega

theorem Slot.of_inj {t u : Nat} (ht : t < 512) (hu : u < 512) (h : Slot.of t = Slot.of u) : t = u := by
  simp only [Slot.of, Slot.mk.injEq] at h
  obtain ⟨h1, h2, h3⟩ := h
  have a1 := congrArg D8.toNat h1
  have a2 := congrArg D8.toNat h2
  have a3 := congrArg D8.toNat h3
  rw [D8.dig_toNat (by omega), D8.dig_toNat (by omega)] at a1
  rw [D8.dig_toNat (by omega), D8.dig_toNat (by omega)] at a2
  rw [D8.dig_toNat (by omega), D8.dig_toNat (by omega)] at a3
  omega

theorem Env.at_setAt (e : Env) (s t : Slot) (v : AV) : Env.at (Env.setAt e s v) t = if t = s then v else Env.at e t := by
  obtain ⟨p, q, r⟩ := s
  obtain ⟨p', q', r'⟩ := t
  simp only [Env.at, Env.setAt, N8.get_set, Slot.mk.injEq]
  by_cases h1 : p' = p
  · subst h1
    simp only [if_true, N8.get_set, true_and]
    by_cases h2 : q' = q
    · subst h2
      simp only [if_true, N8.get_set, true_and]
    · simp [h2]
  · simp [h1]

theorem Env.get_set (e : Env) {t u : Nat} (v : AV) (ht : t < 512) (hu : u < 512) : (e.set t v).get u = if u = t then v else e.get u := by
  unfold Env.get Env.set
  rw [Env.at_setAt]
  by_cases h : u = t
  · subst h; simp
  · rw [if_neg h, if_neg (fun e => h (Slot.of_inj hu ht e))]

theorem Env.get_empty (t : Nat) : Env.empty.get t = AV.undef := by
  simp [Env.get, Env.at, Env.empty, N8.get_all]

/-! ### values -/

/-- Where an abstract block lies: the block, the first of its cells, how many cells belong to it. -/
structure Place where
  blk : Nat
  sh : Nat
  ce : Nat

abbrev Pl := Id → Option Place

def bytesOfArr (s : ByteArray) : List Nat := s.data.toList.map UInt8.toNat

inductive VR (ρ : Pl) : AV → Value → Prop where
  | top (v : Value) : VR ρ .top v
  | bool (b : Bool) : VR ρ (.bool b) (.bool b)
  | int (k : IntKind) (n : Int) : VR ρ (.int k n) (.int k n)
  | str {l : List Nat} {s : ByteArray} (h : bytesOfArr s = l) : VR ρ (.str l) (.string s)
  | nilptr : VR ρ .nilptr (.pointer none)
  | ptr {b : Id} {o : Nat} {pl : Place} (h : ρ b = some pl) : VR ρ (.ptr b o) (.pointer (some ⟨pl.blk, pl.sh + o, none⟩))
  | nilslice : VR ρ .nilslice (.slice none 0 0)
  | slice {b : Id} {o len c : Nat} {pl : Place} (h : ρ b = some pl) : VR ρ (.slice b o len (.is c)) (.slice (some ⟨pl.blk, pl.sh + o, none⟩) len c)
  | sliceO {b : Id} {o len sz c : Nat} {pl : Place} (h : ρ b = some pl) (hc : len ≤ c) (he : o + c * sz = pl.ce) : VR ρ (.slice b o len (.op sz)) (.slice (some ⟨pl.blk, pl.sh + o, none⟩) len c)
  | sliceE {b : Id} {o sz : Nat} {a : Addr} {pl : Place} (h : ρ b = some pl) (he : pl.ce ≤ o) : VR ρ (.slice b o 0 (.op sz)) (.slice (some a) 0 0)
  | sliceZ {b : Id} {o : Nat} {a : Addr} {pl : Place} (h : ρ b = some pl) : VR ρ (.slice b o 0 (.is 0)) (.slice (some a) 0 0)
  | nilmap : VR ρ .nilmap (.map none)
  | map {b : Id} {pl : Place} (h : ρ b = some pl) : VR ρ (.map b) (.map (some pl.blk))
  | nilfn : VR ρ .nilfn .nilFunc
  | fn {f : Nat} {x y : List AV} {xs ys : Array Value} (hx : x.length = xs.size) (hxs : ∀ (i : Nat) (a : AV) (v : Value), x[i]? = some a → xs[i]? = some v → VR ρ a v)
      (hy : y.length = ys.size) (hys : ∀ (i : Nat) (a : AV) (v : Value), y[i]? = some a → ys[i]? = some v → VR ρ a v) : VR ρ (.fn f x y) (.func (.func f) xs ys)
  | nilif : VR ρ .nilif .nilIface
  | iface {t : Nat} {a : AV} {v : Value} (h : VR ρ a v) : VR ρ (.iface t a) (.iface t v)
  | agg {l : List AV} {cs : Array Value} (hl : l.length = cs.size) (h : ∀ (i : Nat) (a : AV) (v : Value), l[i]? = some a → cs[i]? = some v → VR ρ a v) : VR ρ (.agg l) (.agg cs)
  | tup {l : List AV} {cs : Array Value} (hl : l.length = cs.size) (h : ∀ (i : Nat) (a : AV) (v : Value), l[i]? = some a → cs[i]? = some v → VR ρ a v) : VR ρ (.tup l) (.tuple cs)

def VRs (ρ : Pl) (l : List AV) (vs : List Value) : Prop := l.length = vs.length ∧ ∀ (i : Nat) (a : AV) (v : Value), l[i]? = some a → vs[i]? = some v → VR ρ a v

/-- What ρ knows, ρ' knows. -/
def Ext (ρ ρ' : Pl) : Prop := ∀ i pl, ρ i = some pl → ρ' i = some pl

theorem Ext.refl (ρ : Pl) : Ext ρ ρ := fun _ _ h => h
theorem Ext.trans {a b c : Pl} (h : Ext a b) (k : Ext b c) : Ext a c := fun i pl e => k i pl (h i pl e)

theorem VR.mono {ρ ρ' : Pl} (e : Ext ρ ρ') {a : AV} {v : Value} (h : VR ρ a v) : VR ρ' a v := by
  induction h with
  | top v => exact .top v
  | bool b => exact .bool b
  | int k n => exact .int k n
  | str h => exact .str h
  | nilptr => exact .nilptr
  | ptr h => exact .ptr (e _ _ h)
  | nilslice => exact .nilslice
  | slice h => exact .slice (e _ _ h)
  | sliceO h hc he => exact .sliceO (e _ _ h) hc he
  | sliceE h he => exact .sliceE (e _ _ h) he
  | sliceZ h => exact .sliceZ (e _ _ h)
  | nilmap => exact .nilmap
  | map h => exact .map (e _ _ h)
  | nilfn => exact .nilfn
  | fn hx _ hy _ ih1 ih2 => exact .fn hx ih1 hy ih2
  | nilif => exact .nilif
  | iface _ ih => exact .iface ih
  | agg hl _ ih => exact .agg hl ih
  | tup hl _ ih => exact .tup hl ih

theorem VRs.mono {ρ ρ' : Pl} (e : Ext ρ ρ') {l : List AV} {vs : List Value} (h : VRs ρ l vs) : VRs ρ' l vs :=
  ⟨h.1, fun i a v ha hv => (h.2 i a v ha hv).mono e⟩

theorem VRs.nil (ρ : Pl) : VRs ρ [] [] := ⟨rfl, fun i a v h => by simp at h⟩
theorem VRs.cons {ρ : Pl} {a : AV} {v : Value} {l : List AV} {vs : List Value} (h : VR ρ a v) (hs : VRs ρ l vs) : VRs ρ (a :: l) (v :: vs) := by
  refine ⟨by simp [hs.1], fun i b u hb hu => ?_⟩
  cases i with
  | zero => simp at hb hu; subst hb; subst hu; exact h
  | succ i => exact hs.2 i b u (by simpa using hb) (by simpa using hu)
theorem VRs.head {ρ : Pl} {a : AV} {v : Value} {l : List AV} {vs : List Value} (h : VRs ρ (a :: l) (v :: vs)) : VR ρ a v := h.2 0 a v rfl rfl
theorem VRs.tail {ρ : Pl} {a : AV} {v : Value} {l : List AV} {vs : List Value} (h : VRs ρ (a :: l) (v :: vs)) : VRs ρ l vs :=
  ⟨by simpa using h.1, fun i b u hb hu => h.2 (i + 1) b u (by simpa using hb) (by simpa using hu)⟩
theorem VRs.uncons {ρ : Pl} {a : AV} {l : List AV} {vs : List Value} (h : VRs ρ (a :: l) vs) : ∃ v ws, vs = v :: ws ∧ VR ρ a v ∧ VRs ρ l ws := by
  cases vs with
  | nil => have := h.1; simp at this
  | cons v ws => exact ⟨v, ws, rfl, h.head, h.tail⟩
theorem VRs.nil_inv {ρ : Pl} {vs : List Value} (h : VRs ρ [] vs) : vs = [] := by
  cases vs with
  | nil => rfl
  | cons v ws => have := h.1; simp at this
theorem VRs.append {ρ : Pl} {l m : List AV} {vs ws : List Value} (h : VRs ρ l vs) (k : VRs ρ m ws) : VRs ρ (l ++ m) (vs ++ ws) := by
  induction l generalizing vs with
  | nil => rw [h.nil_inv]; simpa using k
  | cons a l ih =>
    obtain ⟨v, vs', rfl, hv, hs⟩ := h.uncons
    exact .cons hv (ih hs)
theorem VRs.ofArr {ρ : Pl} {l : List AV} {cs : Array Value} (hl : l.length = cs.size) (h : ∀ (i : Nat) (a : AV) (v : Value), l[i]? = some a → cs[i]? = some v → VR ρ a v) : VRs ρ l cs.toList :=
  ⟨by simpa using hl, fun i a v ha hv => h i a v ha (by simpa using hv)⟩
theorem VR.aggL {ρ : Pl} {l : List AV} {vs : List Value} (h : VRs ρ l vs) : VR ρ (.agg l) (.agg vs.toArray) :=
  .agg (by simpa using h.1) fun i a v ha hv => h.2 i a v ha (by simpa using hv)
theorem VR.aggA {ρ : Pl} {l : List AV} {cs : Array Value} (h : VRs ρ l cs.toList) : VR ρ (.agg l) (.agg cs) :=
  .agg (by simpa using h.1) fun i a v ha hv => h.2 i a v ha (by simpa using hv)
theorem VR.tupL {ρ : Pl} {l : List AV} {vs : List Value} (h : VRs ρ l vs) : VR ρ (.tup l) (.tuple vs.toArray) :=
  .tup (by simpa using h.1) fun i a v ha hv => h.2 i a v ha (by simpa using hv)
theorem VR.tupA {ρ : Pl} {l : List AV} {cs : Array Value} (h : VRs ρ l cs.toList) : VR ρ (.tup l) (.tuple cs) :=
  .tup (by simpa using h.1) fun i a v ha hv => h.2 i a v ha (by simpa using hv)
theorem VR.fnA {ρ : Pl} {f : Nat} {x y : List AV} {xs ys : Array Value} (hx : VRs ρ x xs.toList) (hy : VRs ρ y ys.toList) : VR ρ (.fn f x y) (.func (.func f) xs ys) :=
  .fn (by simpa using hx.1) (fun i a v ha hv => hx.2 i a v ha (by simpa using hv)) (by simpa using hy.1) (fun i a v ha hv => hy.2 i a v ha (by simpa using hv))
theorem VR.undef (ρ : Pl) : VR ρ .undef Go.undef := VR.tupL (.nil ρ)
theorem VRs.get {ρ : Pl} {l : List AV} {vs : List Value} (h : VRs ρ l vs) {i : Nat} {a : AV} (ha : l[i]? = some a) : ∃ v, vs[i]? = some v ∧ VR ρ a v := by
  have hlt : i < l.length := by
    rcases Nat.lt_or_ge i l.length with h' | h'
    · exact h'
    · rw [List.getElem?_eq_none h'] at ha; cases ha
  have hlt' : i < vs.length := h.1 ▸ hlt
  exact ⟨vs[i], by simp [hlt'], h.2 i a _ ha (by simp [hlt'])⟩

/-! ### memory -/

def AB.owned : AB → Bool
  | .cells own _ => own
  | _ => true

/-- A block, and what stands at its place. -/
def BR (ρ : Pl) (w : World) (pl : Place) : AB → Prop
  | .cells own vs => ∃ cs e fr, w.heap[pl.blk]? = some (.cells cs e fr) ∧ pl.sh + pl.ce ≤ cs.size ∧ vs.length ≤ pl.ce ∧
      (∀ (i : Nat) (a : AV), vs[i]? = some a → ∃ v, cs[pl.sh + i]? = some v ∧ VR ρ a v) ∧ (own = true → fr.1 = fr.2 ∨ cs.size ≤ fr.1)
  | .map es clock => ∃ ces, w.heap[pl.blk]? = some (.map ces clock) ∧ es.length = ces.size ∧
      ∀ (i : Nat) (e : AE) (ce : MapEntry), es[i]? = some e → ces[i]? = some ce → VR ρ e.key ce.key ∧ VR ρ e.val ce.val ∧ ce.born = e.born
  | .iterS l pos => pl.sh = 0 ∧ ∃ s, w.heap[pl.blk]? = some (.stringIter s pos) ∧ bytesOfArr s = l
  | .iterM m since seen stepped => pl.sh = 0 ∧ ∃ cm, w.heap[pl.blk]? = some (.mapIter cm since seen.toArray stepped) ∧
      match m with
      | none => cm = none
      | some b => ∃ pb, ρ b = some pb ∧ cm = some pb.blk

theorem thawed {fr : Nat × Nat} {n : Nat} (h : fr.1 = fr.2 ∨ n ≤ fr.1) (o : Nat) (ho : o < n) : ¬ (fr.1 ≤ o ∧ o < fr.2) := by omega

theorem BR.mono {ρ ρ' : Pl} (e : Ext ρ ρ') {w : World} {pl : Place} {b : AB} (h : BR ρ w pl b) : BR ρ' w pl b := by
  cases b with
  | cells own vs =>
    obtain ⟨cs, el, fr, h1, h2, h3, h4, h5⟩ := h
    exact ⟨cs, el, fr, h1, h2, h3, fun i a ha => let ⟨v, hv, hr⟩ := h4 i a ha; ⟨v, hv, hr.mono e⟩, h5⟩
  | map es clock =>
    obtain ⟨ces, h1, h2, h3⟩ := h
    exact ⟨ces, h1, h2, fun i x ce hx hc => let ⟨a, b, c⟩ := h3 i x ce hx hc; ⟨a.mono e, b.mono e, c⟩⟩
  | iterS l pos => exact h
  | iterM m since seen stepped =>
    obtain ⟨h0, cm, h1, h2⟩ := h
    refine ⟨h0, cm, h1, ?_⟩
    cases m with
    | none => exact h2
    | some b => obtain ⟨pb, h3, h4⟩ := h2; exact ⟨pb, e _ _ h3, h4⟩

theorem BR.keep {ρ : Pl} {w w' : World} {pl : Place} {b : AB} (h : BR ρ w pl b) (k : w'.heap[pl.blk]? = w.heap[pl.blk]?) : BR ρ w' pl b := by
  cases b with
  | cells own vs => obtain ⟨cs, el, fr, h1, h2⟩ := h; exact ⟨cs, el, fr, k.trans h1, h2⟩
  | map es clock => obtain ⟨ces, h1, h2⟩ := h; exact ⟨ces, k.trans h1, h2⟩
  | iterS l pos => obtain ⟨h0, s, h1, h2⟩ := h; exact ⟨h0, s, k.trans h1, h2⟩
  | iterM m since seen stepped => obtain ⟨h0, cm, h1, h2⟩ := h; exact ⟨h0, cm, k.trans h1, h2⟩

theorem BR.lt {ρ : Pl} {w : World} {pl : Place} {b : AB} (h : BR ρ w pl b) : pl.blk < w.heap.size := by
  have key : ∀ o, w.heap[pl.blk]? = some o → pl.blk < w.heap.size := fun o h => (Array.getElem?_eq_some_iff.1 h).1
  cases b with
  | cells own vs => obtain ⟨cs, el, fr, h1, _⟩ := h; exact key _ h1
  | map es clock => obtain ⟨ces, h1, _⟩ := h; exact key _ h1
  | iterS l pos => obtain ⟨_, s, h1, _⟩ := h; exact key _ h1
  | iterM m since seen stepped => obtain ⟨_, cm, h1, _⟩ := h; exact key _ h1

/-- An abstract memory, and the world: of what was there at the call (below n0) nothing has turned. -/
structure HR (n0 : Nat) (w0 : World) (ρ : Pl) (h : AH) (w : World) : Prop where
  blocks : ∀ i b, h.get i = some b → ∃ pl, ρ i = some pl ∧ BR ρ w pl b ∧ (b.owned = true → n0 ≤ pl.blk)
  inj : ∀ i j bi bj pi pj, h.get i = some bi → h.get j = some bj → ρ i = some pi → ρ j = some pj → i ≠ j → bi.owned = true → pi.blk ≠ pj.blk
  fresh : ∀ i, h.next.toNat ≤ i.toNat → ρ i = none
  lt : ∀ i pl, ρ i = some pl → pl.blk < w.heap.size
  below : Below n0 w0 w
  base : n0 ≤ w.heap.size

/-- What a piece of a run does: nothing but the blocks that it may write turns. -/
structure Goes (ρ : Pl) (h : AH) (w : World) (ρ' : Pl) (h' : AH) (w' : World) : Prop where
  ext : Ext ρ ρ'
  size : w.heap.size ≤ w'.heap.size
  next : h.next.toNat ≤ h'.next.toNat
  frame : ∀ cb, cb < w.heap.size → (∀ i b pl, h.get i = some b → b.owned = true → ρ i = some pl → pl.blk ≠ cb) → w'.heap[cb]? = w.heap[cb]?
  img : ∀ i b, h'.get i = some b → (h.next.toNat ≤ i.toNat ∧ ∀ pl, ρ' i = some pl → w.heap.size ≤ pl.blk ∨ ∃ j bj pj, h.get j = some bj ∧ bj.owned = true ∧ ρ j = some pj ∧ pj.blk = pl.blk) ∨
    ∃ b0, h.get i = some b0 ∧ (b.owned = true → b0.owned = true) ∧ ∀ pl, ρ' i = some pl → ρ i = some pl
  grows : ∀ i pl, ρ' i = some pl → ρ i = some pl ∨ h.next.toNat ≤ i.toNat

theorem Goes.refl (ρ : Pl) (h : AH) (w : World) : Goes ρ h w ρ h w :=
  ⟨.refl ρ, Nat.le_refl _, Nat.le_refl _, fun _ _ _ => rfl, fun i b hb => .inr ⟨b, hb, id, fun _ h => h⟩, fun _ _ h => .inl h⟩

theorem Goes.trans {ρ ρ' ρ'' : Pl} {h h' h'' : AH} {w w' w'' : World} (a : Goes ρ h w ρ' h' w') (b : Goes ρ' h' w' ρ'' h'' w'') : Goes ρ h w ρ'' h'' w'' := by
  refine ⟨a.ext.trans b.ext, Nat.le_trans a.size b.size, Nat.le_trans a.next b.next, fun cb hcb hno => ?_, fun i bi hb => ?_, fun i pl hp => ?_⟩
  · rw [b.frame cb (Nat.lt_of_lt_of_le hcb a.size) ?_, a.frame cb hcb hno]
    intro i bi pl hb ho hp e
    subst e
    rcases a.img i bi hb with ⟨_, h1⟩ | ⟨b0, h1, h2, h3⟩
    · rcases h1 pl hp with h1 | ⟨j, bj, pj, h2, h3, h4, h5⟩
      · omega
      · exact hno j bj pj h2 h3 h4 h5
    · exact hno i b0 pl h1 (h2 ho) (h3 pl hp) rfl
  · rcases b.img i bi hb with ⟨h1, h2⟩ | ⟨b0, h1, h2, h3⟩
    · refine .inl ⟨Nat.le_trans a.next h1, fun pl hp => ?_⟩
      rcases h2 pl hp with h3 | ⟨j, bj, pj, h3, h4, h5, h6⟩
      · exact .inl (Nat.le_trans a.size h3)
      · rcases a.img j bj h3 with ⟨_, h7⟩ | ⟨b0, h7, h8, h9⟩
        · rcases h7 pj h5 with h8 | ⟨k, bk, pk, k1, k2, k3, k4⟩
          · exact .inl (h6 ▸ h8)
          · exact .inr ⟨k, bk, pk, k1, k2, k3, k4.trans h6⟩
        · exact .inr ⟨j, b0, pj, h7, h8 h4, h9 pj h5, h6⟩
    · rcases a.img i b0 h1 with ⟨h4, h5⟩ | ⟨b1, h4, h5, h6⟩
      · exact .inl ⟨h4, fun pl hp => h5 pl (h3 pl hp)⟩
      · exact .inr ⟨b1, h4, fun o => h5 (h2 o), fun pl hp => h6 pl (h3 pl hp)⟩
  · rcases b.grows i pl hp with h1 | h1
    · exact a.grows i pl h1
    · exact .inr (Nat.le_trans a.next h1)

variable {n0 : Nat} {w0 : World} {ρ : Pl} {h : AH} {w : World}

theorem HR.at (H : HR n0 w0 ρ h w) {i : Id} {b : AB} {pl : Place} (hb : h.get i = some b) (hp : ρ i = some pl) : BR ρ w pl b ∧ (b.owned = true → n0 ≤ pl.blk) := by
  obtain ⟨pl', h1, h2, h3⟩ := H.blocks i b hb
  rw [hp] at h1; cases h1
  exact ⟨h2, h3⟩

/-- One block is turned, or is new. -/
theorem HR.put (H : HR n0 w0 ρ h w) {ρ' : Pl} {h' : AH} {w' : World} {i : Id} {b : AB} {pl : Place} (e : Ext ρ ρ') (hi : ρ' i = some pl)
    (hρ : ∀ j pj, ρ' j = some pj → j = i ∨ ρ j = some pj)
    (hg : ∀ j bj, h'.get j = some bj → (j = i ∧ bj = b) ∨ (j ≠ i ∧ h.get j = some bj)) (hn : h.next.toNat ≤ h'.next.toNat) (hin : i.toNat < h'.next.toNat)
    (hB : BR ρ' w' pl b) (ho : b.owned = true → n0 ≤ pl.blk) (hk : ∀ k, k ≠ pl.blk → k < w.heap.size → w'.heap[k]? = w.heap[k]?)
    (hne : ∀ j bj pj, j ≠ i → h'.get j = some bj → ρ j = some pj → pj.blk ≠ pl.blk)
    (hs : w.heap.size ≤ w'.heap.size) (hbelow : Below n0 w w') : HR n0 w0 ρ' h' w' := by
  refine ⟨fun j bj hj => ?_, fun j k bj bk pj pk hj hk' hpj hpk hjk hoj => ?_, fun j hj => ?_, fun j pj hj => ?_, H.below.trans hbelow, Nat.le_trans H.base hs⟩
  · rcases hg j bj hj with ⟨rfl, rfl⟩ | ⟨hji, hj'⟩
    · exact ⟨pl, hi, hB, ho⟩
    · obtain ⟨pj, h1, h2, h3⟩ := H.blocks j bj hj'
      exact ⟨pj, e _ _ h1, (h2.keep (hk _ (hne j bj pj hji hj h1) h2.lt)).mono e, h3⟩
  · rcases hg j bj hj with ⟨rfl, rfl⟩ | ⟨hji, hj'⟩
    · rcases hg k bk hk' with ⟨rfl, rfl⟩ | ⟨hki, hk''⟩
      · exact absurd rfl hjk
      · obtain ⟨pk', h1, _⟩ := H.blocks k bk hk''
        have := e _ _ h1
        rw [hpk] at this; cases this
        rw [hi] at hpj; cases hpj
        exact fun e => hne k bk pk hki hk' h1 e.symm
    · obtain ⟨pj', h1, _⟩ := H.blocks j bj hj'
      have h1' := e _ _ h1
      rw [hpj] at h1'; cases h1'
      rcases hg k bk hk' with ⟨rfl, rfl⟩ | ⟨hki, hk''⟩
      · rw [hi] at hpk; cases hpk
        exact hne j bj pj hji hj h1
      · obtain ⟨pk', h2, _⟩ := H.blocks k bk hk''
        have h2' := e _ _ h2
        rw [hpk] at h2'; cases h2'
        exact H.inj j k bj bk pj pk hj' hk'' h1 h2 hjk hoj
  · cases hj' : ρ' j with
    | none => rfl
    | some pj =>
      rcases hρ j pj hj' with rfl | h1
      · omega
      · have := H.fresh j (Nat.le_trans hn hj)
        rw [this] at h1; cases h1
  · rcases hρ j pj hj with rfl | h1
    · rw [hi] at hj; cases hj
      exact hB.lt
    · exact Nat.lt_of_lt_of_le (H.lt j pj h1) hs

/-- Fewer blocks. -/
theorem HR.sub (H : HR n0 w0 ρ h w) {h' : AH} (hg : ∀ j bj, h'.get j = some bj → h.get j = some bj) (hn : h'.next = h.next) : HR n0 w0 ρ h' w :=
  ⟨fun j bj hj => H.blocks j bj (hg j bj hj), fun j k bj bk pj pk hj hk => H.inj j k bj bk pj pk (hg _ _ hj) (hg _ _ hk), fun j hj => H.fresh j (hn ▸ hj), H.lt, H.below, H.base⟩

theorem HR.drop (H : HR n0 w0 ρ h w) (i : Id) : HR n0 w0 ρ (h.set i none) w :=
  H.sub (fun j bj hj => by rw [AH.get_set] at hj; split at hj <;> first | cases hj | exact hj) (AH.next_set h i none)

theorem HR.drew (H : HR n0 w0 ρ h w) : HR n0 w0 ρ h w.drew :=
  ⟨fun j bj hj => let ⟨pl, a, b, c⟩ := H.blocks j bj hj; ⟨pl, a, b.keep rfl, c⟩, H.inj, H.fresh, H.lt, H.below.drew, H.base⟩

/-- A new id. -/
def Pl.with (ρ : Pl) (i : Id) (pl : Place) : Pl := fun j => if j = i then some pl else ρ j

theorem Pl.with_same (ρ : Pl) (i : Id) (pl : Place) : ρ.with i pl i = some pl := by simp [Pl.with]
theorem Pl.with_ext {ρ : Pl} {i : Id} (pl : Place) (h : ρ i = none) : Ext ρ (ρ.with i pl) := fun j pj e => by
  unfold Pl.with
  by_cases hji : j = i
  · subst hji; rw [h] at e; cases e
  · rw [if_neg hji]; exact e
theorem Pl.with_inv {ρ : Pl} {i : Id} {pl : Place} (j : Id) (pj : Place) (h : ρ.with i pl j = some pj) : j = i ∨ ρ j = some pj := by
  unfold Pl.with at h
  split at h
  · rename_i e; exact .inl e
  · exact .inr h

/-- A new block of the run's own. -/
theorem HR.new (H : HR n0 w0 ρ h w) {h' : AH} {b : AB} {i : Id} {o : Obj} (e : h.new b = some (i, h')) (pl : Place) (hpl : pl.blk = w.heap.size)
    (hB : BR (ρ.with i pl) (w.alloc o) pl b) :
    HR n0 w0 (ρ.with i pl) h' (w.alloc o) ∧ Goes ρ h w (ρ.with i pl) h' (w.alloc o) ∧ ρ i = none := by
  obtain ⟨rfl, hn, hg⟩ := AH.new_spec e
  have hfree : ρ h.next = none := H.fresh _ (Nat.le_refl _)
  have hext : Ext ρ (ρ.with h.next pl) := Pl.with_ext pl hfree
  have hg' : ∀ j bj, h'.get j = some bj → (j = h.next ∧ bj = b) ∨ (j ≠ h.next ∧ h.get j = some bj) := fun j bj hj => by
    rw [hg] at hj
    split at hj
    · rename_i e; cases hj; exact .inl ⟨e, rfl⟩
    · rename_i e; exact .inr ⟨e, hj⟩
  have hkeep : ∀ k, k < w.heap.size → (w.alloc o).heap[k]? = w.heap[k]? := fun k hk => Below.heap_alloc w o k hk
  refine ⟨H.put hext (Pl.with_same ρ _ pl) Pl.with_inv hg' (by omega) (by omega) hB (fun _ => hpl ▸ H.base) (fun k _ hk => hkeep k hk) ?_ (by simp)
    ((Below.refl n0 w).alloc H.base o), ⟨hext, by simp, by omega, fun cb hcb _ => hkeep cb hcb, ?_, ?_⟩, hfree⟩
  · intro j bj pj hj hj' hpj e
    have := H.lt j pj hpj
    omega
  · intro j bj hj
    rcases hg' j bj hj with ⟨rfl, rfl⟩ | ⟨hji, hj'⟩
    · refine .inl ⟨Nat.le_refl _, fun pj hpj => ?_⟩
      rw [Pl.with_same] at hpj; cases hpj
      exact .inl (by omega)
    · refine .inr ⟨bj, hj', id, fun pj hpj => ?_⟩
      rcases Pl.with_inv j pj hpj with h1 | h1
      · exact absurd h1 hji
      · exact h1
  · intro j pj hpj
    rcases Pl.with_inv j pj hpj with h1 | h1
    · subst h1; exact .inr (Nat.le_refl _)
    · exact .inl h1

end Go.Ab

/- Code made ready for the kernel: frames, places, readers. -/
namespace Go.Ab.E
open Go.Ab

/-! ### values taken apart: closed branches, what is carried along stands behind the value -/

section
variable {R : Type}

noncomputable def avE (k : AV → Option R) (int : IntKind → Int → Option R) (x : AV) : Option R :=
  match x with
  | .int a b => int a b
  | v => k v

noncomputable def intE (x : AV) : (IntKind → Int → Option R) → Option R :=
  @AV.rec (fun _ => (IntKind → Int → Option R) → Option R) (fun _ => Unit)
    (fun _ => none) (fun _ _ => none) (fun k n f => f k n) (fun _ _ => none) (fun _ => none) (fun _ _ _ => none) (fun _ => none) (fun _ _ _ _ _ => none)
    (fun _ => none) (fun _ _ => none) (fun _ => none) (fun _ _ _ _ _ _ => none) (fun _ => none) (fun _ _ _ _ => none) (fun _ _ _ => none) (fun _ _ _ => none) () (fun _ _ _ _ => ()) x

noncomputable def boolE (x : AV) : (Bool → Option R) → Option R :=
  @AV.rec (fun _ => (Bool → Option R) → Option R) (fun _ => Unit)
    (fun _ => none) (fun b f => f b) (fun _ _ _ => none) (fun _ _ => none) (fun _ => none) (fun _ _ _ => none) (fun _ => none) (fun _ _ _ _ _ => none)
    (fun _ => none) (fun _ _ => none) (fun _ => none) (fun _ _ _ _ _ _ => none) (fun _ => none) (fun _ _ _ _ => none) (fun _ _ _ => none) (fun _ _ _ => none) () (fun _ _ _ _ => ()) x

noncomputable def ptrE (x : AV) : (Id → Nat → Option R) → Option R :=
  @AV.rec (fun _ => (Id → Nat → Option R) → Option R) (fun _ => Unit)
    (fun _ => none) (fun _ _ => none) (fun _ _ _ => none) (fun _ _ => none) (fun _ => none) (fun b o f => f b o) (fun _ => none) (fun _ _ _ _ _ => none)
    (fun _ => none) (fun _ _ => none) (fun _ => none) (fun _ _ _ _ _ _ => none) (fun _ => none) (fun _ _ _ _ => none) (fun _ _ _ => none) (fun _ _ _ => none) () (fun _ _ _ _ => ()) x

noncomputable def sliceE (x : AV) : (Id → Nat → Nat → Cap → Option R) → Option R :=
  @AV.rec (fun _ => (Id → Nat → Nat → Cap → Option R) → Option R) (fun _ => Unit)
    (fun _ => none) (fun _ _ => none) (fun _ _ _ => none) (fun _ _ => none) (fun _ => none) (fun _ _ _ => none) (fun _ => none) (fun b o l c f => f b o l c)
    (fun _ => none) (fun _ _ => none) (fun _ => none) (fun _ _ _ _ _ _ => none) (fun _ => none) (fun _ _ _ _ => none) (fun _ _ _ => none) (fun _ _ _ => none) () (fun _ _ _ _ => ()) x

noncomputable def fnE (x : AV) : (Nat → List AV → List AV → Option R) → Option R :=
  @AV.rec (fun _ => (Nat → List AV → List AV → Option R) → Option R) (fun _ => Unit)
    (fun _ => none) (fun _ _ => none) (fun _ _ _ => none) (fun _ _ => none) (fun _ => none) (fun _ _ _ => none) (fun _ => none) (fun _ _ _ _ _ => none)
    (fun _ => none) (fun _ _ => none) (fun _ => none) (fun g a b _ _ f => f g a b) (fun _ => none) (fun _ _ _ _ => none) (fun _ _ _ => none) (fun _ _ _ => none) () (fun _ _ _ _ => ()) x

noncomputable def tupE (x : AV) : (List AV → Option R) → Option R :=
  @AV.rec (fun _ => (List AV → Option R) → Option R) (fun _ => Unit)
    (fun _ => none) (fun _ _ => none) (fun _ _ _ => none) (fun _ _ => none) (fun _ => none) (fun _ _ _ => none) (fun _ => none) (fun _ _ _ _ _ => none)
    (fun _ => none) (fun _ _ => none) (fun _ => none) (fun _ _ _ _ _ _ => none) (fun _ => none) (fun _ _ _ _ => none) (fun _ _ _ => none) (fun l _ f => f l) () (fun _ _ _ _ => ()) x

/-- Is it something, and neither nil nor unknown (what a look for nil asks)? -/
noncomputable def someE (x : AV) : Bool :=
  @AV.rec (fun _ => Bool) (fun _ => Unit)
    false (fun _ => true) (fun _ _ => true) (fun _ => true) false (fun _ _ => true) true (fun _ _ _ _ => true)
    true (fun _ => true) false (fun _ _ _ _ _ => true) false (fun _ _ _ => true) (fun _ _ => true) (fun _ _ => true) () (fun _ _ _ _ => ()) x

/-- Is it of one cell? -/
noncomputable def cellE (x : AV) : Bool :=
  @AV.rec (fun _ => Bool) (fun _ => Unit)
    false (fun _ => true) (fun _ _ => true) (fun _ => true) true (fun _ _ => true) true (fun _ _ _ _ => true)
    true (fun _ => true) true (fun _ _ _ _ _ => true) true (fun _ _ _ => true) (fun _ _ => false) (fun _ _ => false) () (fun _ _ _ _ => ()) x

theorem intE_some {x : AV} {f : IntKind → Int → Option R} {out : R} (h : intE x f = some out) : ∃ k n, x = .int k n ∧ f k n = some out := by
  cases x <;> first | (cases h; done) | exact ⟨_, _, rfl, h⟩
theorem boolE_some {x : AV} {f : Bool → Option R} {out : R} (h : boolE x f = some out) : ∃ b, x = .bool b ∧ f b = some out := by
  cases x <;> first | (cases h; done) | exact ⟨_, rfl, h⟩
theorem ptrE_some {x : AV} {f : Id → Nat → Option R} {out : R} (h : ptrE x f = some out) : ∃ b o, x = .ptr b o ∧ f b o = some out := by
  cases x <;> first | (cases h; done) | exact ⟨_, _, rfl, h⟩
theorem sliceE_some {x : AV} {f : Id → Nat → Nat → Cap → Option R} {out : R} (h : sliceE x f = some out) : ∃ b o l c, x = .slice b o l c ∧ f b o l c = some out := by
  cases x <;> first | (cases h; done) | exact ⟨_, _, _, _, rfl, h⟩
theorem fnE_some {x : AV} {f : Nat → List AV → List AV → Option R} {out : R} (h : fnE x f = some out) : ∃ g a b, x = .fn g a b ∧ f g a b = some out := by
  cases x <;> first | (cases h; done) | exact ⟨_, _, _, rfl, h⟩
theorem tupE_some {x : AV} {f : List AV → Option R} {out : R} (h : tupE x f = some out) : ∃ l, x = .tup l ∧ f l = some out := by
  cases x <;> first | (cases h; done) | exact ⟨_, rfl, h⟩
theorem someE_true {x : AV} (h : someE x = true) : nilCheckA x = some x := by
  cases x <;> first | (cases h; done) | rfl
theorem cellE_true {x : AV} (h : cellE x = true) : x.cellsOf = some [x] ∧ x.isCell = true := by
  cases x <;> first | (cases h; done) | exact ⟨rfl, rfl⟩
end

/-! ### one of eight -/

structure G8 (α : Type) where
  get : N8 α → α

noncomputable def g8 {α : Type} (k : D8) : G8 α :=
  D8.rec ⟨fun n => N8.rec (fun y _ _ _ _ _ _ _ => y) n⟩ ⟨fun n => N8.rec (fun _ y _ _ _ _ _ _ => y) n⟩ ⟨fun n => N8.rec (fun _ _ y _ _ _ _ _ => y) n⟩ ⟨fun n => N8.rec (fun _ _ _ y _ _ _ _ => y) n⟩
    ⟨fun n => N8.rec (fun _ _ _ _ y _ _ _ => y) n⟩ ⟨fun n => N8.rec (fun _ _ _ _ _ y _ _ => y) n⟩ ⟨fun n => N8.rec (fun _ _ _ _ _ _ y _ => y) n⟩ ⟨fun n => N8.rec (fun _ _ _ _ _ _ _ y => y) n⟩ k

theorem g8_eq {α : Type} (k : D8) (n : N8 α) : (g8 k).get n = N8.get k n := by cases k <;> cases n <;> rfl

structure S8 (α : Type) where
  set : α → N8 α → N8 α

noncomputable def s8 {α : Type} (k : D8) : S8 α :=
  D8.rec ⟨fun v n => N8.rec (fun _ y1 y2 y3 y4 y5 y6 y7 v => ⟨v, y1, y2, y3, y4, y5, y6, y7⟩) n v⟩
    ⟨fun v n => N8.rec (fun y0 _ y2 y3 y4 y5 y6 y7 v => ⟨y0, v, y2, y3, y4, y5, y6, y7⟩) n v⟩
    ⟨fun v n => N8.rec (fun y0 y1 _ y3 y4 y5 y6 y7 v => ⟨y0, y1, v, y3, y4, y5, y6, y7⟩) n v⟩
    ⟨fun v n => N8.rec (fun y0 y1 y2 _ y4 y5 y6 y7 v => ⟨y0, y1, y2, v, y4, y5, y6, y7⟩) n v⟩
    ⟨fun v n => N8.rec (fun y0 y1 y2 y3 _ y5 y6 y7 v => ⟨y0, y1, y2, y3, v, y5, y6, y7⟩) n v⟩
    ⟨fun v n => N8.rec (fun y0 y1 y2 y3 y4 _ y6 y7 v => ⟨y0, y1, y2, y3, y4, v, y6, y7⟩) n v⟩
    ⟨fun v n => N8.rec (fun y0 y1 y2 y3 y4 y5 _ y7 v => ⟨y0, y1, y2, y3, y4, y5, v, y7⟩) n v⟩
    ⟨fun v n => N8.rec (fun y0 y1 y2 y3 y4 y5 y6 _ v => ⟨y0, y1, y2, y3, y4, y5, y6, v⟩) n v⟩ k

theorem s8_eq {α : Type} (k : D8) (v : α) (n : N8 α) : (s8 k).set v n = N8.set k v n := by cases k <;> cases n <;> rfl

/-- The same, the digit known when it runs alone. -/
noncomputable def get8 {α : Type} (k : D8) : N8 α → α :=
  D8.rec (fun n => N8.rec (fun y _ _ _ _ _ _ _ => y) n) (fun n => N8.rec (fun _ y _ _ _ _ _ _ => y) n) (fun n => N8.rec (fun _ _ y _ _ _ _ _ => y) n) (fun n => N8.rec (fun _ _ _ y _ _ _ _ => y) n)
    (fun n => N8.rec (fun _ _ _ _ y _ _ _ => y) n) (fun n => N8.rec (fun _ _ _ _ _ y _ _ => y) n) (fun n => N8.rec (fun _ _ _ _ _ _ y _ => y) n) (fun n => N8.rec (fun _ _ _ _ _ _ _ y => y) n) k

theorem get8_eq {α : Type} (k : D8) (n : N8 α) : get8 k n = N8.get k n := by cases k <;> cases n <;> rfl

/-- One of eight is turned by a function. -/
noncomputable def mod8 {α : Type} (k : D8) : N8 α → (α → α) → N8 α :=
  D8.rec (fun n f => N8.rec (fun y0 y1 y2 y3 y4 y5 y6 y7 f => ⟨f y0, y1, y2, y3, y4, y5, y6, y7⟩) n f)
    (fun n f => N8.rec (fun y0 y1 y2 y3 y4 y5 y6 y7 f => ⟨y0, f y1, y2, y3, y4, y5, y6, y7⟩) n f)
    (fun n f => N8.rec (fun y0 y1 y2 y3 y4 y5 y6 y7 f => ⟨y0, y1, f y2, y3, y4, y5, y6, y7⟩) n f)
    (fun n f => N8.rec (fun y0 y1 y2 y3 y4 y5 y6 y7 f => ⟨y0, y1, y2, f y3, y4, y5, y6, y7⟩) n f)
    (fun n f => N8.rec (fun y0 y1 y2 y3 y4 y5 y6 y7 f => ⟨y0, y1, y2, y3, f y4, y5, y6, y7⟩) n f)
    (fun n f => N8.rec (fun y0 y1 y2 y3 y4 y5 y6 y7 f => ⟨y0, y1, y2, y3, y4, f y5, y6, y7⟩) n f)
    (fun n f => N8.rec (fun y0 y1 y2 y3 y4 y5 y6 y7 f => ⟨y0, y1, y2, y3, y4, y5, f y6, y7⟩) n f)
    (fun n f => N8.rec (fun y0 y1 y2 y3 y4 y5 y6 y7 f => ⟨y0, y1, y2, y3, y4, y5, y6, f y7⟩) n f) k

theorem mod8_eq {α : Type} (k : D8) (n : N8 α) (f : α → α) : mod8 k n f = N8.set k (f (N8.get k n)) n := by cases k <;> cases n <;> rfl

/-! ### memory -/

noncomputable def getH (h : AH) (i : Id) : Option AB :=
  Id.rec (fun o p q r s h => get8 s (get8 r (get8 q (get8 p (get8 o (AH.rec (fun t _ => t) h)))))) i h

theorem getH_eq (h : AH) (i : Id) : getH h i = h.get i := by
  cases h; cases i; simp only [getH, get8_eq, AH.get]

noncomputable def setT (o p q r s : D8) (b : Option AB) (t : Tree AB) : Tree AB :=
  mod8 o t fun t => mod8 p t fun t => mod8 q t fun t => mod8 r t fun t => mod8 s t fun _ => b

noncomputable def setH (h : AH) (i : Id) (b : Option AB) : AH :=
  AH.rec (fun t n i b => Id.rec (fun o p q r s t n b => ⟨setT o p q r s b t, n⟩) i t n b) h i b

theorem setH_eq (h : AH) (i : Id) (b : Option AB) : setH h i b = h.set i b := by
  cases h; cases i; simp only [setH, setT, mod8_eq, AH.set, treeSet]

/-- A number for a block that is yet to come, and the next one. -/
noncomputable def newH {R : Type} (h : AH) (b : AB) (f : Id → AH → Option R) : Option R :=
  AH.rec (fun t n b f => Option.rec none (fun n' => Id.rec (fun o p q r s t n' b f => f ⟨o, p, q, r, s⟩ ⟨setT o p q r s (some b) t, n'⟩) n t n' b f) n.succ) h b f

theorem newH_eq {R : Type} (h : AH) (b : AB) (f : Id → AH → Option R) : newH h b f = match h.new b with | some (i, h') => f i h' | none => none := by
  obtain ⟨t, n⟩ := h
  simp only [newH, AH.new]
  cases n.succ with
  | none => rfl
  | some n' => cases n; simp only [setT, mod8_eq, treeSet]

/-! ### cells -/

section
variable {R : Type}

noncomputable def cellsE (b : Option AB) (f : List AV → Option R) : Option R :=
  Option.rec (fun _ => none) (fun b => AB.rec (fun _ vs f => f vs) (fun _ _ _ => none) (fun _ _ _ => none) (fun _ _ _ _ _ => none) b) b f

/-- Cells that may be written. -/
noncomputable def ownE (b : Option AB) (f : List AV → Option R) : Option R :=
  Option.rec (fun _ => none) (fun b => AB.rec (fun own vs f => Bool.rec none (f vs) own) (fun _ _ _ => none) (fun _ _ _ => none) (fun _ _ _ _ _ => none) b) b f

theorem cellsE_some {b : Option AB} {f : List AV → Option R} {out : R} (h : cellsE b f = some out) : ∃ own vs, b = some (.cells own vs) ∧ f vs = some out := by
  cases b with
  | none => cases h
  | some b => cases b <;> first | exact ⟨_, _, rfl, h⟩ | cases h

theorem ownE_some {b : Option AB} {f : List AV → Option R} {out : R} (h : ownE b f = some out) : ∃ vs, b = some (.cells true vs) ∧ f vs = some out := by
  cases b with
  | none => cases h
  | some b => cases b <;> first | cases h | skip
              rename_i own vs
              cases own with
              | false => cases h
              | true => exact ⟨_, rfl, h⟩
end

noncomputable def tl (vs : List AV) : List AV := List.rec [] (fun _ t _ => t) vs

theorem tl_eq (vs : List AV) : tl vs = dropN 1 vs := by cases vs <;> rfl

theorem dropN_add : ∀ (a b : Nat) (vs : List AV), dropN (a + b) vs = dropN b (dropN a vs)
  | 0, b, vs => by rw [Nat.zero_add]; rfl
  | a + 1, b, [] => by rw [show a + 1 + b = (a + b) + 1 by omega]; simp only [dropN]; cases b <;> rfl
  | a + 1, b, v :: vs => by rw [show a + 1 + b = (a + b) + 1 by omega]; simp only [dropN]; exact dropN_add a b vs

noncomputable def drop8s (n : Nat) : List AV → List AV := Nat.rec (fun vs => vs) (fun _ ih vs => ih (tl (tl (tl (tl (tl (tl (tl (tl vs))))))))) n

theorem drop8s_eq : ∀ (n : Nat) (vs : List AV), drop8s n vs = dropN (8 * n) vs
  | 0, _ => rfl
  | n + 1, vs => by
    show drop8s n (tl (tl (tl (tl (tl (tl (tl (tl vs)))))))) = _
    rw [drop8s_eq n]
    simp only [tl_eq, ← dropN_add]
    congr 1
    omega

/-- The cells from a place on. -/
noncomputable def dropF (o : Nat) (vs : List AV) : List AV :=
  Bool.rec (drop8s (o / 8) (C.dropC (o % 8) vs)) (C.dropC o vs) (Nat.ble o 7)

theorem dropF_eq (o : Nat) (vs : List AV) : dropF o vs = dropN o vs := by
  unfold dropF
  cases Nat.ble o 7 with
  | true => exact C.dropC_eq o vs
  | false =>
    show drop8s (o / 8) (C.dropC (o % 8) vs) = _
    rw [drop8s_eq, C.dropC_eq, ← dropN_add]
    congr 1
    omega

/-- A cell is put (none is there: nothing turns). -/
noncomputable def setAt (o : Nat) (v : AV) : List AV → List AV :=
  Nat.rec (fun vs => List.rec [] (fun _ t _ => v :: t) vs) (fun _ ih vs => List.rec [] (fun x t _ => x :: ih t) vs) o

theorem setAt_splice : ∀ (o : Nat) (v : AV) (vs : List AV), (∃ x r, dropN o vs = x :: r) → splice o [v] vs = some (setAt o v vs)
  | 0, v, vs, h => by
    obtain ⟨x, r, e⟩ := h
    simp only [dropN] at e
    subst e
    rfl
  | o + 1, v, [], h => by obtain ⟨x, r, e⟩ := h; simp [dropN] at e
  | o + 1, v, y :: vs, h => by
    have ih := setAt_splice o v vs (by simpa only [dropN] using h)
    simp only [splice, ih]
    rfl

/-! ### frames -/

structure Fr where
  a0 : AV
  a1 : AV
  a2 : AV
  a3 : AV
  b0 : N8 AV
  b1 : N8 AV
  b2 : N8 AV
  c : N8 (N8 AV)
  ds : List (Nat × List AV)

inductive Sl where
  | a0 | a1 | a2 | a3
  | b0 (dd : D8) | b1 (dd : D8) | b2 (dd : D8)
  | c (dd ee : D8)
  deriving DecidableEq

def Fr.get (f : Fr) : Sl → AV
  | .a0 => f.a0 | .a1 => f.a1 | .a2 => f.a2 | .a3 => f.a3
  | .b0 dd => N8.get dd f.b0 | .b1 dd => N8.get dd f.b1 | .b2 dd => N8.get dd f.b2
  | .c dd ee => N8.get ee (N8.get dd f.c)

def Fr.set (f : Fr) (v : AV) : Sl → Fr
  | .a0 => { f with a0 := v } | .a1 => { f with a1 := v } | .a2 => { f with a2 := v } | .a3 => { f with a3 := v }
  | .b0 dd => { f with b0 := N8.set dd v f.b0 } | .b1 dd => { f with b1 := N8.set dd v f.b1 } | .b2 dd => { f with b2 := N8.set dd v f.b2 }
  | .c dd ee => { f with c := N8.set dd (N8.set ee v (N8.get dd f.c)) f.c }

theorem Fr.get_set (f : Fr) (v : AV) (s t : Sl) : (f.set v s).get t = if t = s then v else f.get t := by
  cases s <;> cases t <;> simp [Fr.get, Fr.set, N8.get_set]
  rename_i dd ee d' e'
  by_cases h : d' = dd
  · subst h; simp [N8.get_set]
  · simp [h]

theorem Fr.ds_set (f : Fr) (v : AV) (s : Sl) : (f.set v s).ds = f.ds := by cases s <;> rfl

/-- The place of the i-th of a frame's temporaries. -/
def slotNo (i : Nat) : Option Sl :=
  match i with
  | 0 => some .a0
  | 1 => some .a1
  | 2 => some .a2
  | 3 => some .a3
  | _ => match Nat.blt i 12 with
    | true => some (.b0 (.dig (i - 4)))
    | false => match Nat.blt i 20 with
      | true => some (.b1 (.dig (i - 12)))
      | false => match Nat.blt i 28 with
        | true => some (.b2 (.dig (i - 20)))
        | false => match Nat.blt i 92 with
          | true => some (.c (.dig ((i - 28) / 8)) (.dig ((i - 28) % 8)))
          | false => none

abbrev Loc := List AV

/-- A reader: a value, by what is at hand. -/
structure XA where
  run : Loc → Fr → AV

noncomputable def getX (s : Sl) : XA :=
  match s with
  | .a0 => ⟨fun _ f => Fr.rec (fun v _ _ _ _ _ _ _ _ => v) f⟩
  | .a1 => ⟨fun _ f => Fr.rec (fun _ v _ _ _ _ _ _ _ => v) f⟩
  | .a2 => ⟨fun _ f => Fr.rec (fun _ _ v _ _ _ _ _ _ => v) f⟩
  | .a3 => ⟨fun _ f => Fr.rec (fun _ _ _ v _ _ _ _ _ => v) f⟩
  | .b0 dd => G8.rec (fun g => ⟨fun _ f => g (Fr.rec (fun _ _ _ _ n _ _ _ _ => n) f)⟩) (g8 dd)
  | .b1 dd => G8.rec (fun g => ⟨fun _ f => g (Fr.rec (fun _ _ _ _ _ n _ _ _ => n) f)⟩) (g8 dd)
  | .b2 dd => G8.rec (fun g => ⟨fun _ f => g (Fr.rec (fun _ _ _ _ _ _ n _ _ => n) f)⟩) (g8 dd)
  | .c dd ee => G8.rec (fun g => G8.rec (fun g' => ⟨fun _ f => g' (g (Fr.rec (fun _ _ _ _ _ _ _ n _ => n) f))⟩) (g8 ee)) (g8 dd)

theorem getX_eq (s : Sl) (l : Loc) (f : Fr) : (getX s).run l f = f.get s := by
  cases f
  cases s <;> first | rfl | (simp only [getX, g8_eq]; rfl)

/-- A writer. -/
structure XS where
  run : AV → Fr → Fr

noncomputable def setX (s : Sl) : XS :=
  match s with
  | .a0 => ⟨fun v f => Fr.rec (fun _ a1 a2 a3 b0 b1 b2 c ds v => ⟨v, a1, a2, a3, b0, b1, b2, c, ds⟩) f v⟩
  | .a1 => ⟨fun v f => Fr.rec (fun a0 _ a2 a3 b0 b1 b2 c ds v => ⟨a0, v, a2, a3, b0, b1, b2, c, ds⟩) f v⟩
  | .a2 => ⟨fun v f => Fr.rec (fun a0 a1 _ a3 b0 b1 b2 c ds v => ⟨a0, a1, v, a3, b0, b1, b2, c, ds⟩) f v⟩
  | .a3 => ⟨fun v f => Fr.rec (fun a0 a1 a2 _ b0 b1 b2 c ds v => ⟨a0, a1, a2, v, b0, b1, b2, c, ds⟩) f v⟩
  | .b0 dd => S8.rec (fun g => ⟨fun v f => Fr.rec (fun a0 a1 a2 a3 b0 b1 b2 c ds v => ⟨a0, a1, a2, a3, g v b0, b1, b2, c, ds⟩) f v⟩) (s8 dd)
  | .b1 dd => S8.rec (fun g => ⟨fun v f => Fr.rec (fun a0 a1 a2 a3 b0 b1 b2 c ds v => ⟨a0, a1, a2, a3, b0, g v b1, b2, c, ds⟩) f v⟩) (s8 dd)
  | .b2 dd => S8.rec (fun g => ⟨fun v f => Fr.rec (fun a0 a1 a2 a3 b0 b1 b2 c ds v => ⟨a0, a1, a2, a3, b0, b1, g v b2, c, ds⟩) f v⟩) (s8 dd)
  | .c dd ee => ⟨fun v f => Fr.rec (fun a0 a1 a2 a3 b0 b1 b2 c ds v => ⟨a0, a1, a2, a3, b0, b1, b2, mod8 dd c fun n => mod8 ee n fun _ => v, ds⟩) f v⟩

theorem setX_eq (s : Sl) (v : AV) (f : Fr) : (setX s).run v f = f.set v s := by
  cases f
  cases s <;> first | rfl | (simp only [setX, s8_eq, mod8_eq]; rfl)

def nthA : Loc → Nat → AV
  | [], _ => .top
  | v :: _, 0 => v
  | _ :: l, i + 1 => nthA l i

noncomputable def locX (i : Nat) : XA :=
  Nat.rec ⟨fun l _ => List.rec .top (fun v _ _ => v) l⟩ (fun _ ih => XA.rec (fun g => ⟨fun l f => g (tl l) f⟩) ih) i

theorem locX_eq : ∀ (i : Nat) (l : Loc) (f : Fr), (locX i).run l f = nthA l i
  | 0, l, f => by cases l <;> rfl
  | i + 1, l, f => by
    have ih := locX_eq i
    have e : (locX (i + 1)) = ⟨fun l f => (locX i).run (tl l) f⟩ := by
      show XA.rec (motive := fun _ => XA) (fun g => ⟨fun l f => g (tl l) f⟩) (locX i) = _
      cases locX i; rfl
    rw [e]
    show (locX i).run (tl l) f = _
    rw [ih]
    cases l with
    | nil => cases i <;> rfl
    | cons v l => rfl

end Go.Ab.E

/- Operations over a reader of operands (printed by gengen.py out of AbFast). -/
namespace Go.Ab.F
open Go.Ab

def makeG (P : Tb) (o : Op) (ev : Operand → AV) : Option (AB × (Id → AV)) :=
  match o with
  | .alloc t => match zeroT P t with
    | some z => some (.cells true z, fun i => .ptr i 0)
    | none => none
  | .box _ x => match (ev x).cellsOf with
    | some cs => some (.cells true cs, fun i => .ptr i 0)
    | none => none
  | .buildSlice t len parts => buildSliceA P t len (parts.toList.map fun p => (p.1, ev p.2))
  | .makeMap t r => match P.underlying t, r with
    | some (.map _ _), none => some (.map [] 0, fun i => .map i)
    | some (.map _ _), some x => match ev x with
      | .int _ _ => some (.map [] 0, fun i => .map i)
      | _ => none
    | _, _ => none
  | .makeSlice t l c => makeSliceA P t (ev l) (ev c)
  | .convert s d x => toBytesA P s d (ev x)
  | _ => none

def opG (P : Tb) (o : Op) (ev : Operand → AV) (h : AH) : Option (AV × AH) :=
  match o with
  | .move x | .assign x => some (ev x, h)
  | .pick c a b => match ev c with
    | .bool true => some (ev a, h)
    | .bool false => some (ev b, h)
    | _ => none
  | .alloc t => newB h (makeG P (.alloc t) ev)
  | .box t x => newB h (makeG P (.box t x) ev)
  | .build t parts => ok1 h (buildA P t (parts.toList.map fun p => (p.1, ev p.2)))
  | .buildSlice t len parts => newB h (makeG P (.buildSlice t len parts) ev)
  | .load t a => match ev a with
    | .ptr b o => ok1 h (loadV P t h b o)
    | _ => none
  | .store t a x => match ev a with
    | .ptr b o => okU (storeV P t h b o (ev x))
    | _ => none
  | .nilCheck x => ok1 h (nilCheckA (ev x))
  | .binOp op t x y _ => ok1 h (binOpA P op t (ev x) (ev y))
  | .unOp op _ x => ok1 h (unOpA op (ev x))
  | .convert s d x => match isSliceT P d with
    | true => match isSliceT P s with
      | true => sameSliceA P s d (ev x) h
      | false => newB h (makeG P (.convert s d x) ev)
    | false => ok1 h (convertA P s d (ev x) h)
  | .sliceToArrayPointer t x => match P.underlying t, ev x with
    | some (.array n _), .slice b o len _ => match Nat.ble n len, Nat.blt 0 n with
      | true, true => some (.ptr b o, h)
      | _, _ => none
    | _, _ => none
  | .makeInterface t x => match P.underlying t with
    | some (.interface _) => none
    | some _ => some (.iface t (ev x), h)
    | none => none
  | .makeFunc (.func f) first cap => some (.fn f (first.toList.map ev) (cap.toList.map ev), h)
  | .makeMap t r => newB h (makeG P (.makeMap t r) ev)
  | .makeSlice t l c => newB h (makeG P (.makeSlice t l c) ev)
  | .slice t x lo hi mx => ok1 h (sliceA P t (ev x) (lo.map ev) (hi.map ev) (mx.map ev))
  | .fieldAddr t x f => ok1 h (fieldAddrA P t (ev x) f)
  | .field t x f => ok1 h (fieldA P t (ev x) f)
  | .indexAddr t x i => ok1 h (indexAddrA P t (ev x) (ev i))
  | .index t x i => ok1 h (indexA P t (ev x) (ev i))
  | .lookup t x k ok => ok1 h (lookupA P t (ev x) (ev k) ok h)
  | .mapUpdate t m k v | .insert t m k v => okU (mapUpdateA P t (ev m) (ev k) (ev v) h)
  | .range t x => rangeA P t (ev x) h
  | .next x s => nextA (ev x) s h
  | .entry x => ok1 h (entryA (ev x) h)
  | .extract x i => ok1 h (extractA (ev x) i)
  | .call { callee := .builtin b, args, argTypes } => builtinA P b argTypes.toList (args.toList.map ev) h
  | _ => none

theorem makeG_eq (T : Tb) (o : Op) (e : Env) : makeG T o (opv e) = makeA T o e := by cases o <;> rfl

theorem opG_eq (T : Tb) (o : Op) (e : Env) (h : AH) : opG T o (opv e) h = opA T o e h := by
  cases o <;> try rfl
  all_goals simp only [opG, opA, makeG_eq]

end Go.Ab.F
