import Derived.Test.YtoobfpnphhcaoaaGreatDoorT14
import Derived.Test.YtoobfpnphhcaoaaGreatDoorRows
import Derived.Lib.LaidTab
import Derived.Lib.SmallJoins
import Derived.Test.YtoobfpnphhcaoaaGreatDoorT29
import Derived.Test.YtoobfpnphhcaoaaGreatDoorT30
import Derived.Test.YtoobfpnphhcaoaaGreatDoorCards
import Derived.Test.YtoobfpnphhcaoaaGreatDoorTie
import Derived.WalkKit
import Derived.ProofKit
import Derived.OpenShut
import Derived.Carry
import Derived.Deep.DeepHandedRow
set_option linter.unusedVariables false
set_option linter.unusedSimpArgs false
/- The package-level variables in a handed world. -/
namespace Go.Ab
open Go.Proofs Go.RowKit

def ints0 : List (IntKind × Nat) := [(.u8, 0), (.u8, 0), (.i64, 2), (.i64, 2), (.u8, 0), (.u8, 0), (.i64, 0), (.i64, 7), (.u8, 0), (.u8, 1), (.i64, 8), (.i64, 0), (.u8, 0), (.u8, 1), (.i64, 0), (.i64, 0), (.u8, 2), (.u8, 0), (.i64, 0), (.i64, 7), (.u8, 2), (.u8, 1), (.i64, 0), (.i64, 0)]
def ints3 : List (IntKind × Nat) := shaConsts.map fun n => (.u32, n)

def avs (l : List (IntKind × Nat)) : List AV := l.map fun p => .int p.1 (.ofNat p.2)
def vals (l : List (IntKind × Nat)) : List Value := l.map fun p => .int p.1 (.ofNat p.2)

def H1 : AH := newRaw AH.empty (.cells false (avs ints0))
def H2 : AH := newRaw H1 (.cells false [])
def H3 : AH := newRaw H2 (.cells false [])
def H4 : AH := newRaw H3 (.cells false (avs ints3))
def H5 : AH := newRaw H4 (.cells false [])

theorem G_eq : G = H5 := by kernel_rfl
theorem n1 : AH.empty.new (.cells false (avs ints0)) = some (Id.ofNat 0, H1) := by kernel_rfl
theorem n2 : H1.new (.cells false []) = some (Id.ofNat 1, H2) := by kernel_rfl
theorem n3 : H2.new (.cells false []) = some (Id.ofNat 2, H3) := by kernel_rfl
theorem n4 : H3.new (.cells false (avs ints3)) = some (Id.ofNat 3, H4) := by kernel_rfl
theorem n5 : H4.new (.cells false []) = some (Id.ofNat 4, H5) := by kernel_rfl
theorem G_next : G.next.toNat = 5 := by kernel_rfl

theorem new_get {h h' : AH} {b c : AB} {i j : Id} (e : h.new b = some (i, h')) (g : h'.get j = some c) : (j = i ∧ c = b) ∨ h.get j = some c := by
  obtain ⟨rfl, _, hg⟩ := AH.new_spec e
  rw [hg] at g
  split at g
  · rename_i hj; cases g; exact .inl ⟨hj, rfl⟩
  · exact .inr g

theorem G_get {i : Id} {b : AB} (h : G.get i = some b) : (i = Id.ofNat 0 ∧ b = .cells false (avs ints0)) ∨ (i = Id.ofNat 1 ∧ b = .cells false []) ∨ (i = Id.ofNat 2 ∧ b = .cells false []) ∨ (i = Id.ofNat 3 ∧ b = .cells false (avs ints3)) ∨ (i = Id.ofNat 4 ∧ b = .cells false []) := by
  rw [G_eq] at h
  rcases new_get n5 h with h | h
  · exact .inr (.inr (.inr (.inr h)))
  rcases new_get n4 h with h | h
  · exact .inr (.inr (.inr (.inl h)))
  rcases new_get n3 h with h | h
  · exact .inr (.inr (.inl h))
  rcases new_get n2 h with h | h
  · exact .inr (.inl h)
  rcases new_get n1 h with h | h
  · exact .inl h
  · exact absurd h (by simp [AH.empty, AH.get, N8.get_all])

def rhoG : Pl := fun i => match i.toNat with
  | 0 => some ⟨0, 0, 24⟩
  | 1 => some ⟨1, 0, 0⟩
  | 2 => some ⟨2, 0, 0⟩
  | 3 => some ⟨3, 0, 64⟩
  | 4 => some ⟨4, 0, 0⟩
  | _ => none

/-- What a handed world holds in its package-level variables' blocks. -/
structure Laid5 (W : World) : Prop where
  w0 : ∃ cs t fr, W.heap[0]? = some (.cells cs t fr) ∧ cs.toList = vals ints0
  w1 : ∃ cs t fr, W.heap[1]? = some (.cells cs t fr)
  w2 : ∃ cs t fr, W.heap[2]? = some (.cells cs t fr)
  w3 : ∃ cs t fr, W.heap[3]? = some (.cells cs t fr) ∧ cs.toList = vals ints3
  w4 : ∃ cs t fr, W.heap[4]? = some (.cells cs t fr)

theorem br_ints {W : World} {ρ : Pl} {g n : Nat} {l : List (IntKind × Nat)} (hn : l.length = n) (h : ∃ cs t fr, W.heap[g]? = some (.cells cs t fr) ∧ cs.toList = vals l) : BR ρ W ⟨g, 0, n⟩ (.cells false (avs l)) := by
  obtain ⟨cs, t, fr, h1, h2⟩ := h
  have hs : cs.size = n := by rw [← Array.length_toList, h2, vals, List.length_map, hn]
  refine ⟨cs, t, fr, h1, by show 0 + n ≤ cs.size; omega, by show (avs l).length ≤ n; rw [avs, List.length_map]; omega, fun i a ha => ?_, fun h => by cases h⟩
  simp only [avs, List.getElem?_map, Option.map_eq_some_iff] at ha
  obtain ⟨p, hp, rfl⟩ := ha
  refine ⟨.int p.1 (.ofNat p.2), ?_, .int _ _⟩
  show cs[0 + i]? = _
  rw [Nat.zero_add, ← Array.getElem?_toList, h2, vals, List.getElem?_map, hp]
  rfl

theorem br_none {W : World} {ρ : Pl} {g : Nat} (h : ∃ cs t fr, W.heap[g]? = some (.cells cs t fr)) : BR ρ W ⟨g, 0, 0⟩ (.cells false []) := by
  obtain ⟨cs, t, fr, h1⟩ := h
  exact ⟨cs, t, fr, h1, Nat.zero_le _, Nat.le_refl _, fun i a ha => by simp at ha, fun h => by cases h⟩

theorem gw_of {W : World} (h : Laid5 W) : GW G W.heap.size W rhoG := by
  have h4 : 4 < W.heap.size := by
    obtain ⟨cs, t, fr, h1⟩ := h.w4
    exact (Array.getElem?_eq_some_iff.1 h1).1
  refine ⟨fun i b hb => ?_, fun i b hb => ?_, fun i hi => ?_, fun i pl hp => ?_, fun g hg => ?_, Nat.le_refl _⟩
  · rcases G_get hb with ⟨_, rfl⟩ | ⟨_, rfl⟩ | ⟨_, rfl⟩ | ⟨_, rfl⟩ | ⟨_, rfl⟩ <;> rfl
  · rcases G_get hb with ⟨rfl, rfl⟩ | ⟨rfl, rfl⟩ | ⟨rfl, rfl⟩ | ⟨rfl, rfl⟩ | ⟨rfl, rfl⟩
    · exact ⟨_, rfl, br_ints rfl h.w0⟩
    · exact ⟨_, rfl, br_none h.w1⟩
    · exact ⟨_, rfl, br_none h.w2⟩
    · exact ⟨_, rfl, br_ints rfl h.w3⟩
    · exact ⟨_, rfl, br_none h.w4⟩
  · rw [G_next] at hi
    unfold rhoG
    split <;> first | omega | rfl
  · unfold rhoG at hp
    split at hp <;> cases hp <;> dsimp only <;> omega
  · have : g < 5 := hg
    match g, this with
    | 0, _ => exact ⟨_, rfl⟩
    | 1, _ => exact ⟨_, rfl⟩
    | 2, _ => exact ⟨_, rfl⟩
    | 3, _ => exact ⟨_, rfl⟩
    | 4, _ => exact ⟨_, rfl⟩
    | n + 5, h => omega

end Go.Ab

/- The package-level variables in a handed world: out of what the row lays. -/
namespace Go.Ab
open Go.Proofs Go.RowKit Go.ChangeShapes Go.Joins

section
variable {H : Type} {enc : TypeId × Value → H} {P : Program} {w : World} {base : Nat} {sp : Nat → Bool} {held : Bool}

theorem trod_arr {t e : TypeId} {n fuel : Nat} {cs : List Value} {ds : List (DataW H)} {p : List MemPlace} (ht : P.underlying t = some (.array n e)) (h : DataW.trod enc P w base sp held fuel t cs = some (.agg ds, p)) :
    cs.length = P.cellsOf t ∧ ∃ fu, ∀ (i : Nat) (d : DataW H), ds[i]? = some d → i < n ∧ ∃ q, DataW.trod enc P w base sp held fu e ((cs.drop (i * P.cellsOf e)).take (P.cellsOf e)) = some (d, q) := by
  cases fuel with
  | zero => simp [DataW.trod] at h
  | succ fuel =>
    simp only [DataW.trod, ht] at h
    split at h
    · rename_i hl
      obtain ⟨xs, hm, hx⟩ := Option.map_eq_some_iff.1 h
      have hxs : xs.map (·.1) = ds := by simpa using congrArg Prod.fst hx
      have hxl : xs.length = n := by simpa using Lib.mapM_length hm
      refine ⟨hl, fuel, fun i d hd => ?_⟩
      rw [← hxs, List.getElem?_map] at hd
      obtain ⟨y, hy, rfl⟩ := Option.map_eq_some_iff.1 hd
      have hi : i < n := by rw [← hxl]; exact (List.getElem?_eq_some_iff.1 hy).1
      obtain ⟨b, hb, hf⟩ := Lib.mapM_at hm i i (by simp [hi])
      rw [hy] at hb
      cases hb
      exact ⟨hi, y.2, hf⟩
    · cases h

theorem way_row {t tb te : TypeId} {f0 f1 f2 f3 : Field} {fuel : Nat} {cs : List Value} {a b c d : Int} {p : List MemPlace} (ht : P.underlying t = some (.struct #[f0, f1, f2, f3])) (h4 : P.cellsOf t = 4)
    (e0 : f0.type = tb ∧ f0.offset = 0) (e1 : f1.type = tb ∧ f1.offset = 1) (e2 : f2.type = te ∧ f2.offset = 2) (e3 : f3.type = te ∧ f3.offset = 3)
    (hb : P.underlying tb = some (.int .u8)) (he : P.underlying te = some (.int .i64)) (cb : P.cellsOf tb = 1) (ce : P.cellsOf te = 1)
    (h : DataW.trod enc P w base sp held fuel t cs = some (.agg [.lit (.int .u8 a), .lit (.int .u8 b), .lit (.int .i64 c), .lit (.int .i64 d)], p)) : cs = [.int .u8 a, .int .u8 b, .int .i64 c, .int .i64 d] := by
  obtain ⟨y0, y1, y2, y3, n, hx, hl, k0, k1, k2, k3⟩ := trod_struct4 ht h
  simp only [Prod.mk.injEq, DataW.agg.injEq, List.cons.injEq, and_true] at hx
  obtain ⟨⟨x0, x1, x2, x3⟩, _⟩ := hx
  rw [h4] at hl
  match cs, hl with
  | [c0, c1, c2, c3], _ =>
    rw [e0.1, e0.2, cb] at k0
    rw [e1.1, e1.2, cb] at k1
    rw [e2.1, e2.2, ce] at k2
    rw [e3.1, e3.2, ce] at k3
    obtain ⟨m0, z0, rfl, _⟩ := DataW.trod_int hb k0
    obtain ⟨m1, z1, rfl, _⟩ := DataW.trod_int hb k1
    obtain ⟨m2, z2, rfl, _⟩ := DataW.trod_int he k2
    obtain ⟨m3, z3, rfl, _⟩ := DataW.trod_int he k3
    simp only [DataW.lit.injEq, Lit.int.injEq, true_and] at x0 x1 x2 x3
    subst x0 x1 x2 x3
    simp only [List.drop_zero, List.take_succ_cons, List.take_zero, List.drop_succ_cons, List.cons.injEq, and_true] at z0 z1 z2 z3
    rw [z0, z1, z2, z3]

end

theorem cells4 {cs : List Value} {l : List (List Value)} (hl : cs.length = l.length * 4) (h : ∀ i x, l[i]? = some x → (cs.drop (i * 4)).take 4 = x) : cs = l.flatten := by
  induction l generalizing cs with
  | nil => simpa using hl
  | cons x l ih =>
    have h0 := h 0 x rfl
    simp only [Nat.zero_mul, List.drop_zero] at h0
    have hr : cs.drop 4 = l.flatten := by
      refine ih (by rw [List.length_drop, hl, List.length_cons]; omega) fun i y hy => ?_
      have := h (i + 1) y (by simpa using hy)
      rw [show (i + 1) * 4 = 4 + i * 4 by omega, ← List.drop_drop] at this
      exact this
    rw [List.flatten_cons, ← hr, ← h0, List.take_append_drop]

theorem heap_of_var {P : Program} {w : World} {n : String} {g : Nat} {cs : Array Value} (hg : P.globalNamed n = some g) (h : w.var? P n = some cs) : ∃ t fr, w.heap[g]? = some (.cells cs t fr) := by
  simp only [World.var?, hg, Option.bind_some] at h
  split at h
  · rename_i c t fr hb
    cases h
    exact ⟨t, fr, hb⟩
  · cases h

theorem shaped_cells {W : World} (hS : W.ShapedOpen Tryz.prog) {g : Nat} (hg : g < Tryz.prog.globals.size) (h : (((begin Tryz.prog (fun _ _ => 0) default).world.heap[g]?).bind Obj.row?).isSome = true) : ∃ cs t fr, W.heap[g]? = some (.cells cs t fr) := by
  obtain ⟨⟨zero, t⟩, hz⟩ := Option.isSome_iff_exists.1 h
  obtain ⟨cs, h1, _, _⟩ := hS.1 g zero t hg hz
  exact ⟨cs, t, _, h1⟩

def wayRows : List (List Value) := [vals [(.u8, 0), (.u8, 0), (.i64, 2), (.i64, 2)], vals [(.u8, 0), (.u8, 0), (.i64, 0), (.i64, 7)], vals [(.u8, 0), (.u8, 1), (.i64, 8), (.i64, 0)], vals [(.u8, 0), (.u8, 1), (.i64, 0), (.i64, 0)], vals [(.u8, 2), (.u8, 0), (.i64, 0), (.i64, 7)], vals [(.u8, 2), (.u8, 1), (.i64, 0), (.i64, 0)]]

theorem laid5 {W : World} (hL : laidMetH Tryz.prog YtoobfpnphhcaoaaGreatDoor.Rows.serverNilRow.laid W) (hS : W.ShapedOpen Tryz.prog) : Laid5 W := by
  have h : laidMet Tryz.prog YtoobfpnphhcaoaaGreatDoor.Rows.serverNilRow.laid W := hL
  obtain ⟨ps, ⟨g3, t3, c3, fu3, p3, q3, hg3, ht3, hv3, hd3, ⟨g2, t2, c2, fu2, p2, q2, hg2, ht2, hv2, hd2, ⟨g0, t0, c0, fu0, p0, q0, hg0, ht0, hv0, hd0, _, _⟩, _⟩, _⟩, _⟩ := h
  have e3 : Tryz.prog.globalNamed "refectory/sha.constants" = some 3 := by kernel_rfl
  have e0 : Tryz.prog.globalNamed "refectory/share.ways" = some 0 := by kernel_rfl
  obtain rfl := Option.some.inj (e3.symm.trans hg3)
  obtain rfl := Option.some.inj (e0.symm.trans hg0)
  obtain rfl := Option.some.inj ((show (Tryz.prog.globals[3]?).map (·.type) = some 516 by kernel_rfl).symm.trans ht3)
  obtain rfl := Option.some.inj ((show (Tryz.prog.globals[0]?).map (·.type) = some 472 by kernel_rfl).symm.trans ht0)
  refine ⟨?_, shaped_cells hS (of_decide_eq_true (by kernel_rfl)) (by kernel_rfl), shaped_cells hS (of_decide_eq_true (by kernel_rfl)) (by kernel_rfl), ?_, shaped_cells hS (of_decide_eq_true (by kernel_rfl)) (by kernel_rfl)⟩
  · obtain ⟨t, fr, hh⟩ := heap_of_var hg0 hv0
    refine ⟨c0, t, fr, hh, ?_⟩
    obtain ⟨hl, fu, hr⟩ := trod_arr Tryz.underlying472 hd0
    rw [show Tryz.prog.cellsOf 472 = 24 by kernel_rfl] at hl
    rw [show Tryz.prog.cellsOf 471 = 4 by kernel_rfl] at hr
    have row : ∀ (i : Nat) (a b c d : Int), (∃ q, DataW.trod (fun _ => ()) Tryz.prog W 0 (fun _ => true) false fu 471 ((c0.toList.drop (i * 4)).take 4) = some (.agg [.lit (.int .u8 a), .lit (.int .u8 b), .lit (.int .i64 c), .lit (.int .i64 d)], q)) → (c0.toList.drop (i * 4)).take 4 = [.int .u8 a, .int .u8 b, .int .i64 c, .int .i64 d] := by
      rintro i a b c d ⟨q, h⟩
      exact way_row Tryz.underlying471 (by kernel_rfl) ⟨rfl, rfl⟩ ⟨rfl, rfl⟩ ⟨rfl, rfl⟩ ⟨rfl, rfl⟩ Tryz.underlying198 Tryz.underlying45 (by kernel_rfl) (by kernel_rfl) h
    have : c0.toList = wayRows.flatten := by
      refine cells4 (by rw [hl]; rfl) fun i x hx => ?_
      match i, hx with
      | 0, hx => cases hx; exact row 0 _ _ _ _ (hr 0 _ rfl).2
      | 1, hx => cases hx; exact row 1 _ _ _ _ (hr 1 _ rfl).2
      | 2, hx => cases hx; exact row 2 _ _ _ _ (hr 2 _ rfl).2
      | 3, hx => cases hx; exact row 3 _ _ _ _ (hr 3 _ rfl).2
      | 4, hx => cases hx; exact row 4 _ _ _ _ (hr 4 _ rfl).2
      | 5, hx => cases hx; exact row 5 _ _ _ _ (hr 5 _ rfl).2
      | n + 6, hx => simp [wayRows] at hx
    rw [this]
    rfl
  · obtain ⟨t, fr, hh⟩ := heap_of_var hg3 hv3
    refine ⟨c3, t, fr, hh, ?_⟩
    have := Lib.cells_of_tab (zs := shaConsts.map Int.ofNat) Tryz.underlying516 Tryz.underlying37 (by kernel_rfl) (by kernel_rfl) hd3
    rw [this]
    simp only [vals, ints3, List.map_map]
    rfl

end Go.Ab

/- ServerNil: whatever the number, the bytes, and the flag, it answers true, and turns nothing that was there. -/
namespace Go.Ab
open E Go.Proofs Go.RowKit

theorem KS5 : KS Tryz.prog G K5 := KS.of fun n0 w0 ρ0 g f args h v h' e => by
  unfold K5 at e
  split at e
  · rename_i hf
    obtain rfl := Nat.eq_of_beq_eq_true hf
    split at e
    · cases e; exact lives_comes g h
    · cases e
  · cases e

theorem K5_ok {f : Nat} {args : List AV} {h h' : AH} {v : AV} (e : K5 f args h = some (v, h')) : pq5 f = true ∧ h' = h := by
  unfold K5 at e
  split at e
  · rename_i hf
    split at e
    · cases e; exact ⟨hf, rfl⟩
    · cases e
  · cases e

theorem nil_calls {W : World} (h5 : Laid5 W) (n : Int) (b : Value) (z : Bool) :
    Calls Tryz.prog 5 #[.int .i64 n, b, .bool z] W fun e W' => e = .returned (.bool true) ∧ Below W.heap.size W W' := by
  have g := gw_of h5
  have run := evN_ok (K := K5) (kn := none2) (pq := pq5) (fun f args h p e => .inl (K5_ok (v := p.1) (h' := p.2) e).1) (fun f args h v h' _ e => (K5_ok e).2) (serverNil_run n z)
  have c : Comes Tryz.prog W.heap.size W 5 [.int .i64 n, .top, .bool z] G (.bool true) G := comes_value KS5 mix plainFuncs rfl rfl run g G
  have r : VRs rhoG [AV.int .i64 n, AV.top, AV.bool z] (#[Value.int .i64 n, b, Value.bool z]).toList := by
    refine ⟨rfl, fun i a v ha hv => ?_⟩
    match i, ha, hv with
    | 0, ha, hv => cases ha; cases hv; exact .int _ _
    | 1, ha, hv => cases ha; exact .top _
    | 2, ha, hv => cases ha; cases hv; exact .bool _
    | k + 3, ha, hv => simp at ha
  rcases c rhoG W _ g.hr g.glob r with ⟨_, h⟩ | ⟨x, w', h, _⟩
  · refine h.mono ?_
    rintro e W' ⟨x, ρ', rfl, hx, _, HF⟩
    cases hx
    exact ⟨rfl, HF.below⟩
  · have := enters_of Tryz.func5 (by kernel_rfl) rfl #[Value.int .i64 n, b, Value.bool z] W
    rw [this] at h
    cases h

end Go.Ab
