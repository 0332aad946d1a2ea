import Derived.Test.YtoobfpnphhcaoaaGreatDoorT12
import Derived.Test.YtoobfpnphhcaoaaGreatDoorT13
set_option linter.unusedVariables false
set_option linter.unusedSimpArgs false
/- SHA-256's presses, in any world. -/
namespace Go.Ab
open E Go.Proofs

/-! ### the package-level variables -/

def newRaw (h : AH) (b : AB) : AH := match h.new b with | some (_, h') => h' | none => h
def rowW (t n e f : Nat) : List AV := [.int .u8 (.ofNat t), .int .u8 (.ofNat n), .int .i64 (.ofNat e), .int .i64 (.ofNat f)]

/-- share.ways, utf8.first, utf8.acceptRanges, sha.constants, bytealg.MaxLen. -/
def G : AH :=
  newRaw (newRaw (newRaw (newRaw (newRaw AH.empty
    (.cells false (rowW 0 0 2 2 ++ rowW 0 0 0 7 ++ rowW 0 1 8 0 ++ rowW 0 1 0 0 ++ rowW 2 0 0 7 ++ rowW 2 1 0 0)))
    (.cells false [])) (.cells false []))
    (.cells false (shaConsts.map fun n => .int .u32 (.ofNat n)))) (.cells false [])

def none2 : Nat → Bool := fun _ => false
def K0 : Known := fun _ _ _ => none

/-! ### words turned -/

noncomputable def turnK (args : List AV) (h : AH) : Option (AV × AH) :=
  match args with
  | [.int .u32 x, a, b, c] => match litK .i64 6 a, litK .i64 11 b, litK .i64 25 c with
    | true, true, true => some (.int .u32 (turnI x 6 11 25), h)
    | _, _, _ => match litK .i64 2 a, litK .i64 13 b, litK .i64 22 c with
      | true, true, true => some (.int .u32 (turnI x 2 13 22), h)
      | _, _, _ => none
  | _ => none

noncomputable def smallK (args : List AV) (h : AH) : Option (AV × AH) :=
  match args with
  | [.int .u32 x, a, b, c] => match litK .i64 17 a, litK .i64 19 b, litK .u64 10 c with
    | true, true, true => some (.int .u32 (smallI x 17 19 10), h)
    | _, _, _ => match litK .i64 7 a, litK .i64 18 b, litK .u64 3 c with
      | true, true, true => some (.int .u32 (smallI x 7 18 3), h)
      | _, _, _ => none
  | _ => none

theorem turn_run1 (x : Int) : ev K0 none2 none2 3 526 [.int .u32 x, .int .i64 (.ofNat 6), .int .i64 (.ofNat 11), .int .i64 (.ofNat 25)] G (fun v _ => some v) = some (.int .u32 (turnI x 6 11 25)) := by kernel_rfl
theorem turn_run0 (x : Int) : ev K0 none2 none2 3 526 [.int .u32 x, .int .i64 (.ofNat 2), .int .i64 (.ofNat 13), .int .i64 (.ofNat 22)] G (fun v _ => some v) = some (.int .u32 (turnI x 2 13 22)) := by kernel_rfl
theorem small_run1 (x : Int) : ev K0 none2 none2 3 525 [.int .u32 x, .int .i64 (.ofNat 17), .int .i64 (.ofNat 19), .int .u64 (.ofNat 10)] G (fun v _ => some v) = some (.int .u32 (smallI x 17 19 10)) := by kernel_rfl
theorem small_run0 (x : Int) : ev K0 none2 none2 3 525 [.int .u32 x, .int .i64 (.ofNat 7), .int .i64 (.ofNat 18), .int .u64 (.ofNat 3)] G (fun v _ => some v) = some (.int .u32 (smallI x 7 18 3)) := by kernel_rfl

theorem KS0 : KS Tryz.prog G K0 := KS.none

/-- By a closed run over nothing known. -/
theorem comes0 {d f : Nat} {args : List AV} {v : AV} (run : ev K0 none2 none2 d f args G (fun v _ => some v) = some v) (ha : flats args = true) (hv : flat 8 v = true) {n0 : Nat} {w0 : World} {ρ0 : Pl} (g : GW G n0 w0 ρ0) (h : AH) : Comes Tryz.prog n0 w0 f args h v h :=
  comes_value KS0 mix plainFuncs ha hv (ev_ok (fun _ _ _ _ e => by cases e) (fun _ _ _ _ _ _ e => by cases e) run) g h

theorem turnK_ok {args : List AV} {h h' : AH} {v : AV} (e : turnK args h = some (v, h')) : h' = h ∧ ∀ {n0 : Nat} {w0 : World} {ρ0 : Pl}, GW G n0 w0 ρ0 → Comes Tryz.prog n0 w0 526 args h v h' := by
  unfold turnK at e
  split at e
  · split at e
    · rename_i h1 h2 h3
      cases e
      rw [litK_eq h1, litK_eq h2, litK_eq h3]
      exact ⟨rfl, fun g => comes0 (turn_run1 _) rfl rfl g h⟩
    · split at e
      · rename_i h1 h2 h3
        cases e
        rw [litK_eq h1, litK_eq h2, litK_eq h3]
        exact ⟨rfl, fun g => comes0 (turn_run0 _) rfl rfl g h⟩
      · cases e
  · cases e

theorem smallK_ok {args : List AV} {h h' : AH} {v : AV} (e : smallK args h = some (v, h')) : h' = h ∧ ∀ {n0 : Nat} {w0 : World} {ρ0 : Pl}, GW G n0 w0 ρ0 → Comes Tryz.prog n0 w0 525 args h v h' := by
  unfold smallK at e
  split at e
  · split at e
    · rename_i h1 h2 h3
      cases e
      rw [litK_eq h1, litK_eq h2, litK_eq h3]
      exact ⟨rfl, fun g => comes0 (small_run1 _) rfl rfl g h⟩
    · split at e
      · rename_i h1 h2 h3
        cases e
        rw [litK_eq h1, litK_eq h2, litK_eq h3]
        exact ⟨rfl, fun g => comes0 (small_run0 _) rfl rfl g h⟩
      · cases e
  · cases e

noncomputable def K1 : Known := fun f args h => match Nat.beq f 526 with | true => turnK args h | false => match Nat.beq f 525 with | true => smallK args h | false => none
def pq1 : Nat → Bool := fun f => match Nat.beq f 526 with | true => true | false => Nat.beq f 525

theorem K1_ok {f : Nat} {args : List AV} {h h' : AH} {v : AV} (e : K1 f args h = some (v, h')) : pq1 f = true ∧ h' = h ∧ ∀ {n0 : Nat} {w0 : World} {ρ0 : Pl}, GW G n0 w0 ρ0 → Comes Tryz.prog n0 w0 f args h v h' := by
  unfold K1 at e
  split at e
  · rename_i hf
    obtain rfl := Nat.eq_of_beq_eq_true hf
    obtain ⟨h1, h2⟩ := turnK_ok e
    exact ⟨rfl, h1, h2⟩
  · split at e
    · rename_i hf
      obtain rfl := Nat.eq_of_beq_eq_true hf
      obtain ⟨h1, h2⟩ := smallK_ok e
      exact ⟨rfl, h1, h2⟩
    · cases e

theorem KS1 : KS Tryz.prog G K1 := KS.of fun _ _ _ g _ _ _ _ _ e => (K1_ok e).2.2 g

theorem press_run (a b c d e f g h : Int) (x : Fin 64 → Int) : ev K1 none2 pq1 6 510 [.agg [.int .u32 a, .int .u32 b, .int .u32 c, .int .u32 d, .int .u32 e, .int .u32 f, .int .u32 g, .int .u32 h], .agg ((List.ofFn x).map fun n => .int .u8 n)] G (fun v _ => some v) =
    some (.agg ((pressI a b c d e f g h (List.ofFn x)).map fun n => .int .u32 n)) := by kernel_rfl

/-! ### the reference's -/

def primes64 : List Nat := [2, 3, 5, 7, 11, 13, 17, 19, 23, 29, 31, 37, 41, 43, 47, 53, 59, 61, 67, 71, 73, 79, 83, 89, 97, 101, 103, 107, 109, 113, 127, 131, 137, 139, 149, 151, 157, 163, 167, 173, 179, 181, 191, 193, 197, 199, 211, 223, 227, 229, 233, 239, 241, 251, 257, 263, 269, 271, 277, 281, 283, 293, 307, 311]

def findC (p : Nat) : List Nat → List Nat → Option Nat
  | q :: qs, c :: cs => match Nat.beq p q with | true => some c | false => findC p qs cs
  | _, _ => none

def constK (args : List AV) (h : AH) : Option (AV × AH) :=
  match args with
  | [.int .u64 (.ofNat p)] => match findC p primes64 shaConsts with
    | some c => some (.int .u32 (.ofNat c), h)
    | none => none
  | _ => none

def turns : List Nat := [2, 6, 7, 11, 13, 17, 18, 19, 22, 25]

def hasW (n : Nat) : List Nat → Bool
  | [] => false
  | x :: xs => match Nat.beq n x with | true => true | false => hasW n xs

noncomputable def turnedK (args : List AV) (h : AH) : Option (AV × AH) :=
  match args with
  | [.int .u32 x, .int .u64 (.ofNat n)] => match hasW n turns with
    | true => some (.int .u32 (turnedI x n), h)
    | false => none
  | _ => none

theorem turned_run (x : Int) : (turns.map fun n => ev K0 none2 none2 3 381 [.int .u32 x, .int .u64 (.ofNat n)] G (fun v _ => some v)) = turns.map fun n => some (.int .u32 (turnedI x n)) := by kernel_rfl

theorem const_run : (primes64.map fun p => ev K0 none2 none2 3 382 [.int .u64 (.ofNat p)] G (fun v _ => some v)) = shaConsts.map fun c => some (.int .u32 (.ofNat c)) := by kernel_rfl

theorem map_hasW {α : Type} {f g : Nat → α} : ∀ {l : List Nat} {n : Nat}, l.map f = l.map g → hasW n l = true → f n = g n
  | [], n, _, h => by cases h
  | x :: l, n, e, h => by
    simp only [List.map_cons, List.cons.injEq] at e
    simp only [hasW] at h
    split at h
    · rename_i hb; rw [Nat.eq_of_beq_eq_true hb]; exact e.1
    · exact map_hasW e.2 h

theorem map_findC {α : Type} {f g : Nat → α} : ∀ {l m : List Nat} {p c : Nat}, l.map f = m.map g → findC p l m = some c → f p = g c
  | [], _, p, c, _, h => by cases h
  | _ :: _, [], p, c, _, h => by cases h
  | x :: l, y :: m, p, c, e, h => by
    simp only [List.map_cons, List.cons.injEq] at e
    simp only [findC] at h
    split at h
    · rename_i hb; cases h; rw [Nat.eq_of_beq_eq_true hb]; exact e.1
    · exact map_findC e.2 h

theorem turnedK_ok {args : List AV} {h h' : AH} {v : AV} (e : turnedK args h = some (v, h')) : h' = h ∧ ∀ {n0 : Nat} {w0 : World} {ρ0 : Pl}, GW G n0 w0 ρ0 → Comes Tryz.prog n0 w0 381 args h v h' := by
  unfold turnedK at e
  split at e
  · split at e
    · rename_i hn
      cases e
      exact ⟨rfl, fun g => comes0 (map_hasW (turned_run _) hn) rfl rfl g h⟩
    · cases e
  · cases e

theorem constK_ok {args : List AV} {h h' : AH} {v : AV} (e : constK args h = some (v, h')) : h' = h ∧ ∀ {n0 : Nat} {w0 : World} {ρ0 : Pl}, GW G n0 w0 ρ0 → Comes Tryz.prog n0 w0 382 args h v h' := by
  unfold constK at e
  split at e
  · split at e
    · rename_i hn
      cases e
      exact ⟨rfl, fun g => comes0 (map_findC const_run hn) rfl rfl g h⟩
    · cases e
  · cases e

noncomputable def K2 : Known := fun f args h => match Nat.beq f 381 with | true => turnedK args h | false => match Nat.beq f 382 with | true => constK args h | false => none
def pq2 : Nat → Bool := fun f => match Nat.beq f 381 with | true => true | false => Nat.beq f 382

theorem K2_ok {f : Nat} {args : List AV} {h h' : AH} {v : AV} (e : K2 f args h = some (v, h')) : pq2 f = true ∧ h' = h ∧ ∀ {n0 : Nat} {w0 : World} {ρ0 : Pl}, GW G n0 w0 ρ0 → Comes Tryz.prog n0 w0 f args h v h' := by
  unfold K2 at e
  split at e
  · rename_i hf
    obtain rfl := Nat.eq_of_beq_eq_true hf
    obtain ⟨h1, h2⟩ := turnedK_ok e
    exact ⟨rfl, h1, h2⟩
  · split at e
    · rename_i hf
      obtain rfl := Nat.eq_of_beq_eq_true hf
      obtain ⟨h1, h2⟩ := constK_ok e
      exact ⟨rfl, h1, h2⟩
    · cases e

theorem KS2 : KS Tryz.prog G K2 := KS.of fun _ _ _ g _ _ _ _ _ e => (K2_ok e).2.2 g

theorem pressR_run (a b c d e f g h : Int) (x : Fin 64 → Int) : ev K2 none2 pq2 6 312 [.agg [.int .u32 a, .int .u32 b, .int .u32 c, .int .u32 d, .int .u32 e, .int .u32 f, .int .u32 g, .int .u32 h], .agg ((List.ofFn x).map fun n => .int .u8 n)] G (fun v _ => some v) =
    some (.agg ((pressR a b c d e f g h (List.ofFn x)).map fun n => .int .u32 n)) := by kernel_rfl

/-! ### both -/

theorem press_flat (ns xs : List Nat) : flats [.agg (ns.map fun n => .int .u32 (.ofNat n)), .agg (xs.map fun n => .int .u8 (.ofNat n))] = true := by
  have h1 := flat_ints (k := .u32) ns
  have h2 := flat_ints (k := .u8) xs
  show ((ns.map fun n => AV.int .u32 (.ofNat n)).all (flat 7) && ((xs.map fun n => AV.int .u8 (.ofNat n)).all (flat 7) && true)) = true
  rw [h1, h2]
  rfl

theorem pressK_ok (which : Bool) {args : List AV} {h h' : AH} {v : AV} (e : pressK args h = some (v, h')) {n0 : Nat} {w0 : World} {ρ0 : Pl} (gw : GW G n0 w0 ρ0) : Comes Tryz.prog n0 w0 (match which with | true => 510 | false => 312) args h v h' := by
  obtain ⟨a, b, c, d, f, g, i, j, xs, rfl, h8, hx, hl, rfl, rfl⟩ := pressK_some e
  have hv : flat 8 (.agg ((prsN a b c d f g i j xs).map fun n => .int .u32 (.ofNat n))) = true := flat_ints (k := .u32) _
  obtain ⟨x, hxs⟩ := ofFn_of hl
  have hxi : (xs.map fun n => AV.int .u8 (.ofNat n)) = ((List.ofFn fun i => Int.ofNat (x i)).map fun n => AV.int .u8 n) := by
    rw [hxs, List.map_ofFn, List.map_ofFn]; rfl
  have hxn : (List.ofFn fun i => Int.ofNat (x i)) = xs.map Int.ofNat := by rw [hxs, List.map_ofFn]; rfl
  have hco : ((fun n => AV.int .u32 n) ∘ Int.ofNat) = fun n => AV.int .u32 (.ofNat n) := rfl
  cases which with
  | true =>
    have run := press_run (.ofNat a) (.ofNat b) (.ofNat c) (.ofNat d) (.ofNat f) (.ofNat g) (.ofNat i) (.ofNat j) (fun i => Int.ofNat (x i))
    rw [← hxi, hxn, pressI_eq h8 xs hx, List.map_map, hco] at run
    have hargs : [AV.agg [.int .u32 (.ofNat a), .int .u32 (.ofNat b), .int .u32 (.ofNat c), .int .u32 (.ofNat d), .int .u32 (.ofNat f), .int .u32 (.ofNat g), .int .u32 (.ofNat i), .int .u32 (.ofNat j)], AV.agg (xs.map fun n => .int .u8 (.ofNat n))] =
      [.agg ([a, b, c, d, f, g, i, j].map fun n => .int .u32 (.ofNat n)), .agg (xs.map fun n => .int .u8 (.ofNat n))] := rfl
    rw [hargs] at run
    have run' := ev_ok (K := K1) (kn := none2) (pq := pq1) (fun f args h p e => .inl (K1_ok (v := p.1) (h' := p.2) e).1) (fun f args h v h' _ e => (K1_ok e).2.1) run
    show Comes Tryz.prog n0 w0 510 _ _ _ _
    exact comes_value KS1 mix plainFuncs (press_flat [a, b, c, d, f, g, i, j] xs) hv run' gw h'
  | false =>
    have run := pressR_run (.ofNat a) (.ofNat b) (.ofNat c) (.ofNat d) (.ofNat f) (.ofNat g) (.ofNat i) (.ofNat j) (fun i => Int.ofNat (x i))
    rw [← hxi, hxn, pressR_eq h8 xs hx, List.map_map, hco] at run
    have hargs : [AV.agg [.int .u32 (.ofNat a), .int .u32 (.ofNat b), .int .u32 (.ofNat c), .int .u32 (.ofNat d), .int .u32 (.ofNat f), .int .u32 (.ofNat g), .int .u32 (.ofNat i), .int .u32 (.ofNat j)], AV.agg (xs.map fun n => .int .u8 (.ofNat n))] =
      [.agg ([a, b, c, d, f, g, i, j].map fun n => .int .u32 (.ofNat n)), .agg (xs.map fun n => .int .u8 (.ofNat n))] := rfl
    rw [hargs] at run
    have run' := ev_ok (K := K2) (kn := none2) (pq := pq2) (fun f args h p e => .inl (K2_ok (v := p.1) (h' := p.2) e).1) (fun f args h v h' _ e => (K2_ok e).2.1) run
    show Comes Tryz.prog n0 w0 312 _ _ _ _
    exact comes_value KS2 mix plainFuncs (press_flat [a, b, c, d, f, g, i, j] xs) hv run' gw h'

end Go.Ab
