import Derived.Shelf.Strings.BuilderK
import Derived.Test.YtoobfpnphhcaoaaGreatDoorProg
import Derived.BigCall
import Derived.Test.YtoobfpnphhcaoaaGreatDoorT13
import Derived.Test.YtoobfpnphhcaoaaGreatDoorT00
import Derived.Test.YtoobfpnphhcaoaaGreatDoorT14
import Derived.Lib.Bytealg
set_option linter.unusedVariables false
set_option linter.unusedSimpArgs false
namespace Go.Proofs
open Go.Shelf
def Tryz.lays240_ren : Go.Shelf.Ren := ⟨fun | 240 => 490 | 276 => 519 | n => n, fun | 0 => 0 | 4 => 4 | 9 => 9 | 20 => 20 | 37 => 31 | 70 => 530 | 72 => 532 | 164 => 621 | n => n, fun | n => n⟩
theorem Tryz.lays240 : Go.Proofs.Lays.n240 Tryz.prog Tryz.lays240_ren := {
  mixed := by kernel_rfl
  f240 := Tryz.func490.trans (congrArg some (by kernel_rfl))
  f276 := Tryz.func519.trans (congrArg some (by kernel_rfl))
  t0 := Tryz.underlying0
  a0 := Tryz.isAgg0
  z0 := Tryz.sizeOf0
  v0 := Tryz.zeroValue0
  t4 := Tryz.underlying4
  a4 := Tryz.isAgg4
  z4 := Tryz.sizeOf4
  v4 := Tryz.zeroValue4
  t9 := Tryz.underlying9
  a9 := Tryz.isAgg9
  z9 := Tryz.sizeOf9
  v9 := Tryz.zeroValue9
  t20 := Tryz.underlying20
  a20 := Tryz.isAgg20
  z20 := Tryz.sizeOf20
  v20 := Tryz.zeroValue20
  t70 := Tryz.underlying530
  a70 := Tryz.isAgg530
  z70 := Tryz.sizeOf530
  v70 := Tryz.zeroValue530
  t72 := Tryz.underlying532
  a72 := Tryz.isAgg532
  z72 := Tryz.sizeOf532
  v72 := Tryz.zeroValue532
  t164 := Tryz.underlying621
  a164 := Tryz.isAgg621
  z164 := Tryz.sizeOf621
  v164 := Tryz.zeroValue621
}
def Tryz.lays167_ren : Go.Shelf.Ren := ⟨fun | 167 => 405 | 240 => 490 | 276 => 519 | n => n, fun | 0 => 0 | 4 => 4 | 5 => 5 | 9 => 9 | 20 => 20 | 37 => 31 | 70 => 530 | 72 => 532 | 75 => 534 | 80 => 392 | 164 => 621 | n => n, fun | n => n⟩
theorem Tryz.lays167 : Go.Proofs.Lays.n167 Tryz.prog Tryz.lays167_ren := {
  mixed := by kernel_rfl
  f167 := Tryz.func405.trans (congrArg some (by kernel_rfl))
  f240 := Tryz.func490.trans (congrArg some (by kernel_rfl))
  f276 := Tryz.func519.trans (congrArg some (by kernel_rfl))
  t0 := Tryz.underlying0
  a0 := Tryz.isAgg0
  z0 := Tryz.sizeOf0
  v0 := Tryz.zeroValue0
  t4 := Tryz.underlying4
  a4 := Tryz.isAgg4
  z4 := Tryz.sizeOf4
  v4 := Tryz.zeroValue4
  t5 := Tryz.underlying5
  a5 := Tryz.isAgg5
  z5 := Tryz.sizeOf5
  v5 := Tryz.zeroValue5
  t9 := Tryz.underlying9
  a9 := Tryz.isAgg9
  z9 := Tryz.sizeOf9
  v9 := Tryz.zeroValue9
  t20 := Tryz.underlying20
  a20 := Tryz.isAgg20
  z20 := Tryz.sizeOf20
  v20 := Tryz.zeroValue20
  t37 := Tryz.underlying31
  a37 := Tryz.isAgg31
  z37 := Tryz.sizeOf31
  v37 := Tryz.zeroValue31
  t70 := Tryz.underlying530
  a70 := Tryz.isAgg530
  z70 := Tryz.sizeOf530
  v70 := Tryz.zeroValue530
  t72 := Tryz.underlying532
  a72 := Tryz.isAgg532
  z72 := Tryz.sizeOf532
  v72 := Tryz.zeroValue532
  t75 := Tryz.underlying534
  a75 := Tryz.isAgg534
  z75 := Tryz.sizeOf534
  v75 := Tryz.zeroValue534
  t164 := Tryz.underlying621
  a164 := Tryz.isAgg621
  z164 := Tryz.sizeOf621
  v164 := Tryz.zeroValue621
}
def Tryz.lays169_ren : Go.Shelf.Ren := ⟨fun | 169 => 407 | n => n, fun | 70 => 530 | 9 => 9 | 0 => 0 | 72 => 532 | 37 => 31 | 127 => 599 | 3 => 3 | 5 => 5 | n => n, fun | n => n⟩
theorem Tryz.lays169 : Go.Proofs.Lays.n169 Tryz.prog Tryz.lays169_ren := {
  mixed := by kernel_rfl
  f169 := Tryz.func407.trans (congrArg some (by kernel_rfl))
  t0 := Tryz.underlying0
  a0 := Tryz.isAgg0
  z0 := Tryz.sizeOf0
  v0 := Tryz.zeroValue0
  t3 := Tryz.underlying3
  a3 := Tryz.isAgg3
  z3 := Tryz.sizeOf3
  v3 := Tryz.zeroValue3
  t9 := Tryz.underlying9
  a9 := Tryz.isAgg9
  z9 := Tryz.sizeOf9
  v9 := Tryz.zeroValue9
  t37 := Tryz.underlying31
  a37 := Tryz.isAgg31
  z37 := Tryz.sizeOf31
  v37 := Tryz.zeroValue31
  t70 := Tryz.underlying530
  a70 := Tryz.isAgg530
  z70 := Tryz.sizeOf530
  v70 := Tryz.zeroValue530
  t72 := Tryz.underlying532
  a72 := Tryz.isAgg532
  z72 := Tryz.sizeOf532
  v72 := Tryz.zeroValue532
  t127 := Tryz.underlying599
  a127 := Tryz.isAgg599
  z127 := Tryz.sizeOf599
  v127 := Tryz.zeroValue599 }
theorem Tryz.Builder_Extra_169 : Builder.Extra Tryz.prog Tryz.lays169_ren := {
  sizeBuilder := by kernel_rfl
  liesBuilder := by kernel_rfl
  t5 := Tryz.underlying5
  a5 := Tryz.isAgg5
  z5 := Tryz.sizeOf5
  v5 := Tryz.zeroValue5
  infoByte := by kernel_rfl
  cellsByte := by kernel_rfl
  sizeByte := by kernel_rfl
  neB5 := by decide }
open Go.RowKit in

theorem Tryz.Builder_Extra_167 : Builder.Extra Tryz.prog Tryz.lays167_ren := {
  sizeBuilder := by kernel_rfl
  liesBuilder := by kernel_rfl
  t5 := Tryz.underlying5
  a5 := Tryz.isAgg5
  z5 := Tryz.sizeOf5
  v5 := Tryz.zeroValue5
  infoByte := by kernel_rfl
  cellsByte := by kernel_rfl
  sizeByte := by kernel_rfl
  neB5 := by decide }
open Go.RowKit in
theorem Tryz.Builder_WriteByte_k (B b : Nat) (bs : List Value) (c : Int) (w : World) (h : Lib.IsBuilderF 532 5 B b bs w) (hlen : bs.length + 1 ≤ 140737488355328) (hBw : B ≤ w.heap.size) :
    Calls Tryz.prog 405 #[.pointer (some ⟨b, 0, none⟩), .int .u8 c] w fun e w' => e = .returned .nilIface ∧ (Lib.BuilderAtF 532 5 B b (.pointer (some ⟨b, 0, none⟩)) (bs ++ [.int .u8 c]) w' ∧ Below B w w' ∧ Lib.OthersKept 5 (some b) w w') := Any.Builder_WriteByte_k Tryz.lays167 Tryz.Builder_Extra_167 B b bs c w h hlen hBw
open Go.RowKit in
theorem Tryz.Builder_String_any_k (B b : Nat) (l : List UInt8) (w : World) (h : Lib.IsBuilderF 532 5 B b (Lib.byteCells l) w) (hBw : B ≤ w.heap.size) :
    Calls Tryz.prog 407 #[.pointer (some ⟨b, 0, none⟩)] w fun e w' => e = .returned (.string ⟨l.toArray⟩) ∧ (Lib.IsBuilderF 532 5 B b (Lib.byteCells l) w' ∧ Below B w w' ∧ Lib.OthersKept 5 (some b) w w') := Any.Builder_String_any_k Tryz.lays169 Tryz.Builder_Extra_169 B b l w h hBw
end Go.Proofs

namespace Go.Proofs
open Go.RowKit

def foldB (x : UInt8) : UInt8 := if 65 ≤ x.toNat ∧ x.toNat ≤ 90 then x + 32 else x

theorem foldB_toNat (x : UInt8) : (foldB x).toNat = if 65 ≤ x.toNat ∧ x.toNat ≤ 90 then x.toNat + 32 else x.toNat := by
  unfold foldB
  split
  · rename_i h
    rw [UInt8.toNat_add]
    have : (32 : UInt8).toNat = 32 := rfl
    omega
  · rfl

set_option maxHeartbeats 4000000 in
set_option maxRecDepth 1000000 in
theorem Tryz.fold_walk (x : UInt8) (w : World) :
    Calls Tryz.prog 406 #[.int .i32 (x.toNat : Int)] w fun e w' => e = .returned (.int .i32 ((foldB x).toNat : Int)) ∧ w' = w := by
  go_enter Tryz.func406, Tryz.ntmps406
  go_wp2
  · go_ret
    refine ⟨?_, rfl⟩
    rw [foldB_toNat, if_pos (by omega)]
    show Ending.returned (Value.int .i32 _) = _
    congr 2
    omega
  · go_ret
    refine ⟨?_, rfl⟩
    rw [foldB_toNat, if_neg (by omega)]
    rfl
  · go_ret
    refine ⟨?_, rfl⟩
    rw [foldB_toNat, if_neg (by omega)]
    rfl

set_option maxHeartbeats 4000000 in
set_option maxRecDepth 1000000 in
theorem Tryz.Fold_walk (s : ByteArray) (w : World) (hs : s.size ≤ 35184372088832) :
    Calls Tryz.prog 338 #[.string s] w fun e w' => e = .returned (.string ⟨(s.data.toList.map foldB).toArray⟩) ∧ Below w.heap.size w w' := by
  have hlen : s.data.toList.length = s.size := (Lib.size_eq s).symm
  go_enter Tryz.func338, Tryz.ntmps338
  go_wp2
  go_loopw [7] (fun v wr => ∃ i : Nat, v = .int .i64 i ∧ i ≤ s.size ∧ Lib.IsBuilderF 532 5 w.heap.size w.heap.size (Lib.byteCells ((s.data.toList.take i).map foldB)) wr ∧ Below w.heap.size w wr ∧ w.heap.size < wr.heap.size) (fun v _ => s.size - (Lib.intOf v).toNat)
  case atStart =>
    refine ⟨0, rfl, by omega, ?_, (Below.refl _ w).alloc (Nat.le_refl _) _, by simp⟩
    exact Lib.IsBuilderF.of (Lib.fresh_isBuilder 532 5 w)
  case round =>
    obtain ⟨i, rfl, hi, hI, hbw, hsz⟩ := hrel
    by_cases hlt : i < s.size
    · have hb : s[i].toNat < 256 := UInt8.toNat_lt _
      have hw : wrap32 (s[i].toNat : Int) = (s[i].toNat : Int) := by unfold wrap32; omega
      have hm : ((foldB s[i]).toNat : Int) % 256 = ((foldB s[i]).toNat : Int) := by have := UInt8.toNat_lt (foldB s[i]); omega
      have hstep : Lib.byteCells ((s.data.toList.take (i + 1)).map foldB) = Lib.byteCells ((s.data.toList.take i).map foldB) ++ [.int .u8 ((foldB s[i]).toNat : Int)] := by
        have hget : s.data.toList[i]? = some s[i] := by
          rw [List.getElem?_eq_getElem (by omega)]
          rfl
        rw [List.take_add_one, hget]
        simp [Lib.byteCells]
      have hll : (Lib.byteCells ((s.data.toList.take i).map foldB)).length + 1 ≤ 140737488355328 := by
        rw [Lib.byteCells_length]; simp; omega
      obtain ⟨CS, hCS⟩ : ∃ CS, Lib.byteCells ((s.data.toList.take i).map foldB) = CS := ⟨_, rfl⟩
      rw [hCS] at hI hstep hll
      go_wp2_with (first
        | (go_at_call 406; refine (Tryz.fold_walk s[i] _).mono ?_; rintro e w' ⟨rfl, rfl⟩)
        | (go_at_call 405; refine (Tryz.Builder_WriteByte_k w.heap.size w.heap.size _ _ _ hI hll (by omega)).mono ?_; rintro e W1 ⟨rfl, h1, b1, k1⟩))
      go_roundw
      case rel =>
        refine ⟨i + 1, rfl, by omega, ?_, hbw.trans b1, ?_⟩
        · rw [hstep]
          exact Or.inr h1
        · have := b1.size; omega
      case measure =>
        simp only [Lib.intOf]
        omega
    · obtain rfl : i = s.size := by omega
      go_wp2_with (go_at_call 407; refine (Tryz.Builder_String_any_k w.heap.size w.heap.size _ _ hI (by omega)).mono ?_)
      rintro e W1 ⟨rfl, _, b1, _⟩
      go_wp2
      go_ret
      refine ⟨?_, hbw.trans b1⟩
      show Ending.returned (Value.string ⟨(List.take s.size (List.map foldB s.data.toList)).toArray⟩) = _
      rw [List.take_of_length_le (by simp)]
end Go.Proofs

/- A run cut into calls: what stands at a call, and what behind it, as texts. -/
namespace Go.Ab
open Go.RowKit

variable {P : Program}

/-! ### are two values, two blocks the same? -/

def eqAV : Nat → AV → AV → Bool
  | 0, _, _ => false
  | n + 1, x, y => match x, y with
    | .top, .top => true
    | .bool a, .bool b => match a with | true => b | false => !b
    | .int k a, .int k' b => match eqK k k' with | true => eqI a b | false => false
    | .str a, .str b => eqL a b
    | .nilptr, .nilptr => true
    | .ptr a o, .ptr b p => match Nat.beq o p with | true => Id.same a b | false => false
    | .nilslice, .nilslice => true
    | .slice a o l c, .slice b p m d => match Nat.beq o p, Nat.beq l m, sameO c d with | true, true, true => Id.same a b | _, _, _ => false
    | .nilmap, .nilmap => true
    | .map a, .map b => Id.same a b
    | .nilfn, .nilfn => true
    | .fn f x y, .fn g x' y' => match Nat.beq f g with | true => (match sameL (eqAV n) x x' with | true => sameL (eqAV n) y y' | false => false) | false => false
    | .nilif, .nilif => true
    | .iface t v, .iface u w => match Nat.beq t u with | true => eqAV n v w | false => false
    | .agg x, .agg y => sameL (eqAV n) x y
    | .tup x, .tup y => sameL (eqAV n) x y
    | _, _ => false

theorem eqAV_eq : ∀ (n : Nat) (x y : AV), eqAV n x y = true → x = y
  | 0, _, _, h => by cases h
  | n + 1, x, y, h => by
    cases x <;> cases y <;> first | (cases h; done) | rfl | skip
    case bool.bool a b => cases a <;> cases b <;> first | rfl | cases h
    case int.int k a k' b =>
      simp only [eqAV] at h
      split at h
      · rename_i hk; rw [eqK_same hk, eqI_same h]
      · cases h
    case str.str a b => simp only [eqAV] at h; rw [eqL_same h]
    case ptr.ptr a o b p =>
      simp only [eqAV] at h
      split at h
      · rename_i hk; rw [Nat.eq_of_beq_eq_true hk, Id.same_eq h]
      · cases h
    case slice.slice a o l c b p m d =>
      simp only [eqAV] at h
      split at h
      · rename_i h1 h2 h3; rw [Nat.eq_of_beq_eq_true h1, Nat.eq_of_beq_eq_true h2, sameO_eq h3, Id.same_eq h]
      · cases h
    case map.map a b => simp only [eqAV] at h; rw [Id.same_eq h]
    case fn.fn f a b g c d =>
      simp only [eqAV] at h
      split at h
      · rename_i h1
        split at h
        · rename_i h2; rw [Nat.eq_of_beq_eq_true h1, sameL_eq (eqAV_eq n) h2, sameL_eq (eqAV_eq n) h]
        · cases h
      · cases h
    case iface.iface t v u w =>
      simp only [eqAV] at h
      split at h
      · rename_i h1; rw [Nat.eq_of_beq_eq_true h1, eqAV_eq n _ _ h]
      · cases h
    case agg.agg a b => simp only [eqAV] at h; rw [sameL_eq (eqAV_eq n) h]
    case tup.tup a b => simp only [eqAV] at h; rw [sameL_eq (eqAV_eq n) h]

def eqAE : List AE → List AE → Bool
  | [], [] => true
  | a :: x, b :: y => match eqAV 12 a.key b.key, eqAV 12 a.val b.val, Nat.beq a.born b.born with | true, true, true => eqAE x y | _, _, _ => false
  | _, _ => false

theorem eqAE_eq : ∀ {x y : List AE}, eqAE x y = true → x = y
  | [], [], _ => rfl
  | [], _ :: _, h => by cases h
  | _ :: _, [], h => by cases h
  | a :: x, b :: y, h => by
    simp only [eqAE] at h
    split at h
    · rename_i h1 h2 h3
      obtain ⟨k, v, n⟩ := a
      obtain ⟨k', v', n'⟩ := b
      simp only at h1 h2 h3
      rw [eqAE_eq h, eqAV_eq _ _ _ h1, eqAV_eq _ _ _ h2, Nat.eq_of_beq_eq_true h3]
    · cases h

def eqNL : List Nat → List Nat → Bool
  | [], [] => true
  | a :: x, b :: y => match Nat.beq a b with | true => eqNL x y | false => false
  | _, _ => false

theorem eqNL_eq : ∀ {x y : List Nat}, eqNL x y = true → x = y
  | [], [], _ => rfl
  | [], _ :: _, h => by cases h
  | _ :: _, [], h => by cases h
  | a :: x, b :: y, h => by
    simp only [eqNL] at h
    split at h
    · rename_i h1; rw [Nat.eq_of_beq_eq_true h1, eqNL_eq h]
    · cases h

def eqAB (x y : AB) : Bool :=
  match x, y with
  | .cells o vs, .cells p ws => match (match o with | true => p | false => !p) with | true => sameL (eqAV 12) vs ws | false => false
  | .map es c, .map fs d => match Nat.beq c d with | true => eqAE es fs | false => false
  | .iterS s p, .iterS t q => match Nat.beq p q with | true => eqNL s t | false => false
  | _, _ => false

theorem eqAB_eq {x y : AB} (h : eqAB x y = true) : x = y := by
  cases x <;> cases y <;> first | (cases h; done) | skip
  case cells.cells o vs p ws =>
    simp only [eqAB] at h
    split at h
    · rename_i h1
      rw [sameL_eq (eqAV_eq 12) h]
      cases o <;> cases p <;> first | rfl | cases h1
    · cases h
  case map.map es c fs d =>
    simp only [eqAB] at h
    split at h
    · rename_i h1; rw [Nat.eq_of_beq_eq_true h1, eqAE_eq h]
    · cases h
  case iterS.iterS s p t q =>
    simp only [eqAB] at h
    split at h
    · rename_i h1; rw [Nat.eq_of_beq_eq_true h1, eqNL_eq h]
    · cases h

/-! ### memory as a text -/

/-- Does a memory hold so much? -/
noncomputable def subH (L : List (Id × AB)) (h : AH) : Bool :=
  match L with
  | [] => true
  | p :: L => match E.getH h p.1 with
    | some b => match eqAB p.2 b with | true => subH L h | false => false
    | none => false

theorem subH_get {h : AH} : ∀ {L : List (Id × AB)}, subH L h = true → ∀ p ∈ L, h.get p.1 = some p.2
  | [], _, p, hp => by cases hp
  | q :: L, e, p, hp => by
    simp only [subH] at e
    split at e
    · rename_i b hb
      split at e
      · rename_i hq
        rcases List.mem_cons.1 hp with rfl | hp
        · rw [E.getH_eq] at hb
          rw [hb, eqAB_eq hq]
        · exact subH_get e p hp
      · cases e
    · cases e

/-- A memory of so much. -/
noncomputable def heapOf (L : List (Id × AB)) (n : Id) : AH :=
  match L with
  | [] => ⟨N8.all (N8.all (N8.all (N8.all (N8.all none)))), n⟩
  | p :: L => E.setH (heapOf L n) p.1 (some p.2)

theorem heapOf_next : ∀ (L : List (Id × AB)) (n : Id), (heapOf L n).next = n
  | [], n => rfl
  | p :: L, n => by simp only [heapOf]; rw [E.setH_eq, AH.next_set, heapOf_next L n]

theorem heapOf_get : ∀ {L : List (Id × AB)} {n i : Id} {b : AB}, (heapOf L n).get i = some b → (i, b) ∈ L
  | [], n, i, b, h => by simp [heapOf, AH.get, N8.get_all] at h
  | p :: L, n, i, b, h => by
    simp only [heapOf] at h
    rw [E.setH_eq, AH.get_set] at h
    split at h
    · rename_i hi
      cases h
      rw [hi]
      exact List.mem_cons_self
    · exact List.mem_cons_of_mem _ (heapOf_get h)

theorem heapOf_sub {L : List (Id × AB)} {n : Id} {h : AH} (e : subH L h = true) : ∀ i b, (heapOf L n).get i = some b → h.get i = some b :=
  fun _ _ hi => subH_get e _ (heapOf_get hi)

/-- What turns in less turns in more. -/
theorem Goes.wide {ρ ρ' : Pl} {h hS hS' h2 : AH} {w w' : World} (g : Goes ρ hS w ρ' hS' w') (h1 : ∀ i b, hS.get i = some b → h.get i = some b) (hn : hS.next = h.next) (h3 : ∀ i b, h2.get i = some b → hS'.get i = some b) (hn2 : h2.next = hS'.next) : Goes ρ h w ρ' h2 w' := by
  refine ⟨g.ext, g.size, by rw [← hn, hn2]; exact g.next, fun cb hcb hno => g.frame cb hcb fun i b pl hi ho hp => hno i b pl (h1 i b hi) ho hp, fun i b hi => ?_, fun i pl hp => ?_⟩
  · rcases g.img i b (h3 i b hi) with ⟨k1, k2⟩ | ⟨b0, k1, k2, k3⟩
    · refine .inl ⟨hn ▸ k1, fun pl hp => ?_⟩
      rcases k2 pl hp with k3 | ⟨j, bj, pj, k3, k4, k5, k6⟩
      · exact .inl k3
      · exact .inr ⟨j, bj, pj, h1 j bj k3, k4, k5, k6⟩
    · exact .inr ⟨b0, h1 i b0 k1, k2, k3⟩
  · rw [← hn]; exact g.grows i pl hp

/-- What is asked behind a cut call. -/
noncomputable def cutK (v0 : AV) (L' : List (Id × AB)) (n' : Id) : KV Unit := fun v h =>
  match eqAV 12 v0 v, subH L' h, Id.same n' h.next with
  | true, true, true => some ()
  | _, _, _ => none

/-- A cut call. -/
theorem comes_cut {G : AH} {I : Known} (hI : KS P G I) (hmix : P.follows .mixedOrders = true) (hP : PlainFuncs P) {rounds d f : Nat} {args : List AV} {v0 : AV} {L L' : List (Id × AB)} {n n' : Id}
    (run : evFun P I rounds d f args (heapOf L n) (cutK v0 L' n') = some ()) {n0 : Nat} {w0 : World} {ρ0 : Pl} (g : GW G n0 w0 ρ0) {h : AH} (hs : subH L h = true) (hn : Id.same n h.next = true) : Comes P n0 w0 f args h v0 (heapOf L' n') := by
  intro ρ w vs H GL r
  have hsub := heapOf_sub (n := n) hs
  have hnx : (heapOf L n).next = h.next := by rw [heapOf_next]; exact Id.same_eq hn
  have HS : HR n0 w0 ρ (heapOf L n) w := H.sub hsub hnx
  refine (evFun_sound (ω := Unit) (hI n0 w0 ρ0 g) hmix hP d f args _ _ _ run ρ w vs HS GL r).mono fun e w' hr => ?_
  obtain ⟨v, x, ρ', h', h1, h2, h3, h4, h5⟩ := hr
  unfold cutK at h5
  split at h5
  · rename_i k1 k2 k3
    have hv := eqAV_eq _ _ _ k1
    subst hv
    have hsub2 := heapOf_sub (n := n') k2
    have hn2 : (heapOf L' n').next = h'.next := by rw [heapOf_next]; exact Id.same_eq k3
    exact ⟨x, ρ', h1, h2, h3.wide hsub hnx hsub2 hn2, h4.sub hsub2 hn2⟩
  · cases h5

/-- An entry of what is known of cut calls. -/
structure Cut where
  args : List AV
  pre : List (Id × AB)
  n : Id
  val : AV
  post : List (Id × AB)
  n' : Id

noncomputable def Cut.try (c : Cut) (args : List AV) (h : AH) : Option (AV × AH) :=
  match sameL (eqAV 12) c.args args, Id.same c.n h.next with
  | true, true => match subH c.pre h with
    | true => some (c.val, heapOf c.post c.n')
    | false => none
  | _, _ => none

theorem Cut.try_ok {G : AH} {I : Known} (hI : KS P G I) (hmix : P.follows .mixedOrders = true) (hP : PlainFuncs P) {rounds d f : Nat} {c : Cut} (run : evFun P I rounds d f c.args (heapOf c.pre c.n) (cutK c.val c.post c.n') = some ())
    {args : List AV} {h h' : AH} {v : AV} (e : c.try args h = some (v, h')) {n0 : Nat} {w0 : World} {ρ0 : Pl} (g : GW G n0 w0 ρ0) : Comes P n0 w0 f args h v h' := by
  unfold Cut.try at e
  split at e
  · rename_i h1 h2
    split at e
    · rename_i h3
      cases e
      rw [← sameL_eq (eqAV_eq 12) h1]
      exact comes_cut hI hmix hP run g h3 h2
    · cases e
  · cases e

end Go.Ab

namespace Go.Ab

/-! ### functions without a text of their own -/

def countN (c : Nat) : List Nat → Nat → Nat
  | [], n => n
  | x :: xs, n => match Nat.beq x c with | true => countN c xs (n + 1) | false => countN c xs n

def countStrA : List AV → AH → Option (AV × AH)
  | [.str s, .int .u8 (.ofNat c)], h => some (.int .i64 (.ofNat (countN c s 0)), h)
  | _, _ => none

def findN (c : Nat) : List Nat → Nat → Option Nat
  | [], _ => none
  | x :: xs, i => match Nat.beq x c with | true => some i | false => findN c xs (i + 1)

def findStrA : List AV → AH → Option (AV × AH)
  | [.str s, .int .u8 (.ofNat c)], h => match findN c s 0 with
    | some i => some (.int .i64 (.ofNat i), h)
    | none => some (.int .i64 (.negSucc 0), h)
  | _, _ => none

def sameA : List AV → AH → Option (AV × AH)
  | [x], h => some (x, h)
  | _, _ => none

def makeNoZeroA : List AV → AH → Option (AV × AH)
  | [.int .i64 (.ofNat n)], h => match Nat.ble n roomN, h.new (.cells true []) with
    | true, some (i, h') => some (.slice i 0 n (.op 1), h')
    | _, _ => none
  | _, _ => none

def lowerN : List Nat → List Nat
  | [] => []
  | x :: xs => match Nat.ble 65 x, Nat.ble x 90 with
    | true, true => (x + 32) :: lowerN xs
    | _, _ => x :: lowerN xs

def foldA : List AV → AH → Option (AV × AH)
  | [.str s], h => some (.str (lowerN s), h)
  | _, _ => none

def strsOf : List AV → Option (List (List Nat))
  | [] => some []
  | .str s :: vs => match strsOf vs with | some l => some (s :: l) | none => none
  | _ :: _ => none

def joinN (sep : List Nat) : List (List Nat) → List Nat
  | [] => []
  | [s] => s
  | s :: ss => s ++ sep ++ joinN sep ss

def joinA : List AV → AH → Option (AV × AH)
  | [.nilslice, .str _], h => some (.str [], h)
  | [.slice b o n _, .str sep], h => match h.load b o n with
    | some l => match strsOf l with
      | some ss => some (.str (joinN sep ss), h)
      | none => none
    | none => none
  | _, _ => none

end Go.Ab

/- What is known of calls that turn nothing: the presses, CountString, Fold. -/
namespace Go.Ab
open E Go.Proofs Go.RowKit

theorem countN_eq (c : Nat) (hc : c < 256) : ∀ (l : List UInt8) (n : Nat), countN c (l.map UInt8.toNat) n = n + Lib.countByte l c.toUInt8 := by
  intro l
  induction l with
  | nil => intro n; rfl
  | cons x l ih =>
    intro n
    have hx : Nat.beq x.toNat c = (x == c.toUInt8) := by
      have h1 : c.toUInt8.toNat = c := by simp [Nat.mod_eq_of_lt hc]
      by_cases h : x = c.toUInt8
      · subst h
        rw [h1, Nat.beq_refl]; simp
      · have h2 : x.toNat ≠ c := fun e => h (UInt8.toNat_inj.1 (by rw [h1]; exact e))
        rw [show (x == c.toUInt8) = false by simpa using h]
        cases hb : Nat.beq x.toNat c with
        | false => rfl
        | true => exact absurd (Nat.eq_of_beq_eq_true hb) h2
    simp only [List.map_cons, countN, hx, Lib.countByte, List.count_cons]
    cases hq : (x == c.toUInt8) with
    | true => simp only [ih, Lib.countByte, if_true]; omega
    | false => simp [ih, Lib.countByte]

noncomputable def countK (args : List AV) (h : AH) : Option (AV × AH) :=
  match args with
  | [.str s, .int .u8 (.ofNat c)] => match Nat.blt c 256 with
    | true => some (.int .i64 (.ofNat (countN c s 0)), h)
    | false => none
  | _ => none

theorem bytesOfArr_eq (s : ByteArray) : bytesOfArr s = s.data.toList.map UInt8.toNat := by
  simp [bytesOfArr]

theorem outcome_value {P : Program} {g : FuncId} {vs : Array Value} {w w' : World} {x : Value} {R : Ending → World → Prop} (h : (callFunc g vs).run P w = .ok (.value x) w') (r : R (.returned x) w') : Outcome P g vs w R := .inr ⟨x, w', h, r⟩

theorem countK_ok {args : List AV} {h h' : AH} {v : AV} (e : countK args h = some (v, h')) : h' = h ∧ ∀ {n0 : Nat} {w0 : World}, Comes Tryz.prog n0 w0 515 args h v h' := by
  unfold countK at e
  split at e
  · rename_i l c
    split at e
    · rename_i hc
      cases e
      refine ⟨rfl, fun {n0 w0} ρ w vs H _ r => ?_⟩
      obtain ⟨x, y, hvs, r1, r2⟩ : ∃ x y, vs = #[x, y] ∧ VR ρ (.str l) x ∧ VR ρ (.int .u8 (.ofNat c)) y := by
        obtain ⟨hl, hr⟩ := r
        match vs, hl, hr with
        | ⟨[x, y]⟩, _, hr => exact ⟨x, y, rfl, hr 0 _ _ rfl rfl, hr 1 _ _ rfl rfl⟩
      cases r1 with
      | str hs =>
        rename_i s
        cases r2
        subst hvs
        refine outcome_value (x := .int .i64 (Lib.countByte s.data.toList (Int.ofNat c).toNat.toUInt8)) (w' := w) ?_ ⟨_, ρ, rfl, ?_, .refl ρ _ w, H⟩
        · rw [run_callFunc_extern Tryz.func515 (by kernel_rfl) (by kernel_rfl) (by kernel_rfl) (e := Extern.BytealgCount.count) (by kernel_rfl), Lib.run_countString]
          rfl
        · rw [← hs, bytesOfArr_eq, countN_eq c (Nat.lt_of_succ_le (Nat.le_of_ble_eq_true hc)), Nat.zero_add]
          exact .int _ _
    · cases e
  · cases e

/-! ### Fold -/

theorem lowerN_eq : ∀ l : List UInt8, lowerN (l.map UInt8.toNat) = (l.map foldB).map UInt8.toNat := by
  intro l
  induction l with
  | nil => rfl
  | cons x l ih =>
    simp only [List.map_cons, lowerN, ih]
    rw [foldB_toNat]
    cases h1 : Nat.ble 65 x.toNat with
    | true =>
      have k1 := Nat.le_of_ble_eq_true h1
      cases h2 : Nat.ble x.toNat 90 with
      | true => rw [if_pos ⟨k1, Nat.le_of_ble_eq_true h2⟩]
      | false => rw [if_neg fun h => by rw [Nat.ble_eq_true_of_le h.2] at h2; cases h2]
    | false => rw [if_neg fun h => by rw [Nat.ble_eq_true_of_le h.1] at h1; cases h1]

def foldK (args : List AV) (h : AH) : Option (AV × AH) :=
  match args with
  | [.str s] => match Nat.ble s.length 1000 with
    | true => some (.str (lowerN s), h)
    | false => none
  | _ => none

theorem foldK_ok {args : List AV} {h h' : AH} {v : AV} (e : foldK args h = some (v, h')) : h' = h ∧ ∀ {n0 : Nat} {w0 : World}, Comes Tryz.prog n0 w0 338 args h v h' := by
  unfold foldK at e
  split at e
  · rename_i l
    split at e
    · rename_i hc
      cases e
      refine ⟨rfl, fun {n0 w0} ρ w vs H _ r => ?_⟩
      obtain ⟨x, hvs, r1⟩ : ∃ x, vs = #[x] ∧ VR ρ (.str l) x := by
        obtain ⟨hl, hr⟩ := r
        match vs, hl, hr with
        | ⟨[x]⟩, _, hr => exact ⟨x, rfl, hr 0 _ _ rfl rfl⟩
      cases r1 with
      | str hs =>
        rename_i s
        subst hvs
        have hlen : s.data.toList.length = s.size := (Lib.size_eq s).symm
        have hsz : s.size ≤ 1000 := by
          have := Nat.le_of_ble_eq_true hc
          rw [← hs, bytesOfArr_eq, List.length_map] at this
          omega
        refine .inl ⟨enters_of Tryz.func338 (by kernel_rfl) rfl _ _, (Tryz.Fold_walk s w (by omega)).mono ?_⟩
        rintro e w' ⟨rfl, b⟩
        obtain ⟨k1, k2⟩ := H.past b
        refine ⟨_, ρ, rfl, .str ?_, k2, k1⟩
        rw [← hs, bytesOfArr_eq, bytesOfArr_eq, lowerN_eq]
    · cases e
  · cases e

/-! ### the table -/

noncomputable def K3 : Known := fun f args h =>
  match Nat.beq f 510 with
  | true => pressK args h
  | false => match Nat.beq f 312 with
    | true => pressK args h
    | false => match Nat.beq f 338 with
      | true => foldK args h
      | false => match Nat.beq f 515 with
        | true => countK args h
        | false => none

def pq3 : Nat → Bool := fun f => match Nat.beq f 510 with | true => true | false => match Nat.beq f 312 with | true => true | false => match Nat.beq f 338 with | true => true | false => Nat.beq f 515

theorem pressK_same {args : List AV} {h h' : AH} {v : AV} (e : pressK args h = some (v, h')) : h' = h := by
  obtain ⟨_, _, _, _, _, _, _, _, _, _, _, _, _, _, h1⟩ := pressK_some e
  first | exact h1 | exact h1.symm

theorem K3_ok {f : Nat} {args : List AV} {h h' : AH} {v : AV} (e : K3 f args h = some (v, h')) : pq3 f = true ∧ h' = h ∧ ∀ {n0 : Nat} {w0 : World} {ρ0 : Pl}, GW G n0 w0 ρ0 → Comes Tryz.prog n0 w0 f args h v h' := by
  unfold K3 at e
  split at e
  · rename_i hf
    obtain rfl := Nat.eq_of_beq_eq_true hf
    exact ⟨rfl, pressK_same e, fun g => pressK_ok true e g⟩
  · split at e
    · rename_i hf
      obtain rfl := Nat.eq_of_beq_eq_true hf
      exact ⟨rfl, pressK_same e, fun g => pressK_ok false e g⟩
    · split at e
      · rename_i hf
        obtain rfl := Nat.eq_of_beq_eq_true hf
        obtain ⟨h1, h2⟩ := foldK_ok e
        exact ⟨rfl, h1, fun _ => h2⟩
      · split at e
        · rename_i hf
          obtain rfl := Nat.eq_of_beq_eq_true hf
          obtain ⟨h1, h2⟩ := countK_ok e
          exact ⟨rfl, h1, fun _ => h2⟩
        · cases e

theorem KS3 : KS Tryz.prog G K3 := KS.of fun _ _ _ g _ _ _ _ _ e => (K3_ok e).2.2 g

end Go.Ab
