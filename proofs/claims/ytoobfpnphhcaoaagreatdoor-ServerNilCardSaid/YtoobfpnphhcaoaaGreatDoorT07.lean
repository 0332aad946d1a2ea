import Derived.Test.YtoobfpnphhcaoaaGreatDoorT06
import Derived.Laws.RangeString
set_option linter.unusedVariables false
set_option linter.unusedSimpArgs false
namespace Go.Ab
open Go.RowKit

variable {P : Program} {n0 : Nat} {w0 : World} {ρ : Pl} {h : AH} {w : World}

/-! ### conversions -/

theorem byteV_rel (s : ByteArray) : VRs ρ ((bytesOfArr s).map byteV) (s.data.map fun b => Value.int .u8 b.toNat).toList := by
  refine ⟨by simp [bytesOfArr], fun i a v ha hv => ?_⟩
  simp only [bytesOfArr, List.map_map, List.getElem?_map, Option.map_eq_some_iff] at ha
  obtain ⟨b, hb, rfl⟩ := ha
  simp only [Array.toList_map, List.getElem?_map, hb, Option.map_some, Option.some.injEq] at hv
  subst hv
  exact .int _ _

theorem bytesRow_size (s : ByteArray) (c : Nat) (h : s.size ≤ c) : (bytesRow s c).size = c := by
  simp only [bytesRow, Array.size_append, Array.size_map, Array.size_replicate]
  have : s.data.size = s.size := rfl
  omega

theorem bytesOf_spec : ∀ {l : List AV} {s : List Nat}, bytesOf l = some s → ∃ u : List UInt8, s = u.map UInt8.toNat ∧ l = s.map byteV
  | [], s, e => by simp only [bytesOf, Option.some.injEq] at e; subst e; exact ⟨[], rfl, rfl⟩
  | a :: l, s, e => by
    unfold bytesOf at e
    split at e
    · rename_i h; cases h
    · rename_i n vs h
      cases h
      split at e
      · rename_i l' hlt hl'
        cases e
        rw [Nat.blt_eq] at hlt
        obtain ⟨u, h1, h2⟩ := bytesOf_spec hl'
        have hn : (UInt8.ofNat n).toNat = n := by simp [Nat.mod_eq_of_lt hlt]
        exact ⟨UInt8.ofNat n :: u, by simp [h1, hn], by simp [h2, byteV]⟩
      · cases e
    · cases e

theorem toBytesA_makes {s d : Nat} {a : AV} {x : Value} {b : AB} {mk : Id → AV} (ra : VR ρ a x) (e : toBytesA P s d a = some (b, mk)) : Makes P ρ w (convert s d x) b mk := by
  unfold toBytesA at e
  split at e <;> try (cases e; done)
  rename_i el l hs hd
  cases ra with
  | str hl =>
  rename_i bs
  subst hl
  split at e <;> try (cases e; done)
  rename_i hel
  cases e
  have hc := grownCap_ge w bs.size 0 el
  have hsz := bytesRow_size bs _ hc
  refine makes_cells (wd := w.drew) (.inr rfl) (run_bytes_of_string w s d el bs hs hd hel) (byteV_rel bs) (arr := bytesRow bs (grownCap w bs.size 0 el)) (fun j hj => by
      simp only [Array.toList_map, List.length_map, Array.length_toList] at hj
      rw [bytesRow_at bs _ j hj]
      simp only [Array.toList_map, List.getElem?_map, Array.getElem?_toList, Array.getElem?_eq_getElem hj, Option.map_some]) (by rw [hsz]; simpa using hc) (.inr (Nat.le_refl _)) fun ρ' i hi => ?_
  rw [bytesOfArr_length]
  have := VR.sliceO (o := 0) (len := bs.size) (sz := 1) (c := grownCap w bs.size 0 el) hi hc (by simp [hsz])
  simpa using this

theorem convertA_sound {s d : Nat} {a r : AV} {x : Value} (H : HR n0 w0 ρ h w) (ra : VR ρ a x) (e : convertA P s d a h = some r) : Ran P n0 w0 ρ h (convert s d x) w r h := by
  unfold convertA at e
  split at e
  · rename_i ds k k' n hs hd
    cases ra
    cases e
    refine ⟨.int k (k.wrap n), w, ρ, ?_, by rw [wrapI_eq]; exact .int _ _, .refl ρ _ w, H⟩
    simp only [convert, Sem.run_bind, run_underlying hs, run_underlying hd, Result.andThen_ok]
    cases ds <;> rfl
  · rename_i ds l hs hd
    cases ra with
    | str hl =>
    cases e
    refine ⟨_, w, ρ, ?_, .str hl, .refl ρ _ w, H⟩
    simp only [convert, Sem.run_bind, run_underlying hs, run_underlying hd, Result.andThen_ok]
    cases ds <;> rfl
  · rename_i el hs hd
    cases ra
    split at e
    · rename_i hel
      cases e
      refine ⟨.string .empty, w, ρ, ?_, .str rfl, .refl ρ _ w, H⟩
      simp only [convert, Sem.run_bind, run_underlying hs, run_underlying hd, run_underlying hel, Result.andThen_ok]
      rfl
    · cases e
  · rename_i el b o len cap hs hd
    split at e
    · rename_i hel
      split at e
      · rename_i l hl
        split at e
        · rename_i u hu
          cases e
          obtain ⟨us, rfl, rfl⟩ := bytesOf_spec hu
          have key : ∀ (ad : Addr) (c : Nat), x = .slice (some ad) len c → us.length = len → (∀ j (hj : j < us.length), w.cell? (ad.add j) = some (.int .u8 (us[j].toNat : Int))) → Ran P n0 w0 ρ h (convert s d x) w (.str (us.map UInt8.toNat)) h :=
            fun ad c hx hlen hc => by
              subst hx hlen
              exact ⟨_, w, ρ, run_convert_bytes_back w s d el ad c us hs hel hd hc, .str (by simp [bytesOfArr]), .refl ρ _ w, H⟩
          have cells : ∀ (pl : Place), ρ b = some pl → us.length = len ∧ ∀ j (hj : j < us.length), w.cell? ((⟨pl.blk, pl.sh + o, none⟩ : Addr).add j) = some (.int .u8 (us[j].toNat : Int)) := fun pl hp => by
            obtain ⟨vs, g1, g2, g3⟩ := load_cells H hl hp
            have hlen : us.length = len := by have := g2.1; simp at this; omega
            refine ⟨hlen, fun j hj => g3 j _ ?_⟩
            have ha : ((us.map UInt8.toNat).map byteV)[j]? = some (byteV us[j].toNat) := by simp [hj]
            obtain ⟨v, hv, hr⟩ := g2.get ha
            cases hr
            exact hv
          cases ra with
          | slice hp => obtain ⟨q1, q2⟩ := cells _ hp; exact key _ _ rfl q1 q2
          | sliceO hp _ _ => obtain ⟨q1, q2⟩ := cells _ hp; exact key _ _ rfl q1 q2
          | sliceE hp he =>
            obtain ⟨q1, q2⟩ := cells _ hp
            exact key _ _ rfl q1 (fun j hj => by omega)
          | sliceZ hp =>
            obtain ⟨q1, q2⟩ := cells _ hp
            exact key _ _ rfl q1 (fun j hj => by omega)
        · cases e
      · cases e
    · cases e
  · cases e

/-! ### append and copy -/

/-- Where a slice's cells lie: they read so; if there are any, at the block's own place. -/
structure At (ρ : Pl) (b : Id) (o len : Nat) (cap : Cap) (x : Value) (ad : Addr) (C : Nat) (pl : Place) : Prop where
  val : x = .slice (some ad) len C
  at_ : ρ b = some pl
  adr : ad = ⟨pl.blk, pl.sh + o, none⟩ ∨ (len = 0 ∧ C = 0)
  is : ∀ c, cap = .is c → C = c
  op : ∀ sz, cap = .op sz → len ≤ C ∧ ((C = 0 ∧ pl.ce ≤ o) ∨ (ad = ⟨pl.blk, pl.sh + o, none⟩ ∧ o + C * sz = pl.ce))

theorem slice_at {b : Id} {o len : Nat} {cap : Cap} {x : Value} (ra : VR ρ (.slice b o len cap) x) : ∃ ad C pl, At ρ b o len cap x ad C pl := by
  cases ra with
  | slice hp => exact ⟨_, _, _, rfl, hp, .inl rfl, fun c h => by cases h; rfl, fun sz h => by cases h⟩
  | sliceO hp hc he => exact ⟨_, _, _, rfl, hp, .inl rfl, fun c h => (by cases h), fun sz h => (by cases h; exact ⟨hc, .inr ⟨rfl, he⟩⟩)⟩
  | sliceE hp he => exact ⟨_, _, _, rfl, hp, .inr ⟨rfl, rfl⟩, fun c h => (by cases h), fun sz h => (by cases h; exact ⟨Nat.le_refl _, .inl ⟨rfl, he⟩⟩)⟩
  | sliceZ hp => exact ⟨_, _, _, rfl, hp, .inr ⟨rfl, rfl⟩, fun c h => (by cases h; rfl), fun sz h => (by cases h)⟩

theorem load_slice {b : Id} {o len sz : Nat} {cap : Cap} {x : Value} {ad : Addr} {C : Nat} {pl : Place} {l : List AV} (H : HR n0 w0 ρ h w) (A : At ρ b o len cap x ad C pl) (e : h.load b o (len * sz) = some l) :
    ∃ vs : List Value, vs.length = len * sz ∧ VRs ρ l vs ∧ ∀ j v, vs[j]? = some v → w.cell? (ad.add j) = some v := by
  obtain ⟨vs, g1, g2, g3⟩ := load_cells H e A.at_
  refine ⟨vs, g1, g2, fun j v hv => ?_⟩
  rcases A.adr with h1 | ⟨h1, _⟩
  · rw [h1]; exact g3 j v hv
  · subst h1
    have := (List.getElem?_eq_some_iff.1 hv).1
    omega

theorem srcA_sound {sz n : Nat} {a : AV} {x : Value} {l : List AV} (H : HR n0 w0 ρ h w) (ra : VR ρ a x) (e : srcA sz a h = some (n, l)) :
    ∃ vs : List Value, VRs ρ l vs ∧ vs.length = n * sz ∧ (∀ w', (Builtin.lenOf x).run P w' = .ok n w') ∧
      ∀ w' : World, (∀ a, w'.cell? a = w.cell? a) → ∀ m, m ≤ n → (Builtin.firstCells sz m x).run P w' = .ok (vs.take (m * sz)).toArray w' := by
  unfold srcA at e
  split at e
  · cases ra; cases e
    refine ⟨[], .nil ρ, by simp, fun _ => rfl, fun w' _ m hm => ?_⟩
    simp [run_firstCells_none]
  · rename_i b o k cap
    split at e
    · rename_i l' hl
      cases e
      obtain ⟨ad, C, pl, A⟩ := slice_at ra
      obtain ⟨vs, g1, g2, g3⟩ := load_slice H A hl
      have hx := A.val
      subst hx
      refine ⟨vs, g2, g1, fun _ => rfl, fun w' hw m hm => ?_⟩
      have hlen : (vs.take (m * sz)).length = m * sz := by
        rw [List.length_take, g1]
        exact Nat.min_eq_left (Nat.mul_le_mul_right _ hm)
      exact run_firstCells_some w' sz m ad n C _ hlen fun j v hv => by
        rw [hw]
        refine g3 j v ?_
        rw [List.getElem?_take] at hv
        split at hv
        · exact hv
        · cases hv
    · cases e
  · rename_i u
    cases ra with
    | str hs =>
    rename_i bs
    subst hs
    split at e
    · rename_i h1
      have h1' := Nat.eq_of_beq_eq_true h1
      subst h1'
      cases e
      refine ⟨_, byteV_rel bs, by simp [bytesOfArr], fun _ => by rw [bytesOfArr_length]; rfl, fun w' _ m hm => ?_⟩
      rw [bytesOfArr_length] at hm
      simp only [Builtin.firstCells, Nat.mul_one]
      have : ((bs.extract 0 m).data.map fun b => Value.int .u8 b.toNat) = ((bs.data.map fun b => Value.int .u8 b.toNat).toList.take m).toArray := by
        apply Array.ext'
        simp [ByteArray.data_extract, List.extract_eq_take_drop]
      rw [← this]; rfl
    · cases e
  · cases e

theorem store_none (a : Addr) (w : World) : (storeCells a []).run P w = .ok () w := rfl

theorem store_slice {b : Id} {o len j : Nat} {cap : Cap} {x : Value} {ad : Addr} {C : Nat} {pl : Place} {l : List AV} {vs : List Value} {h' : AH} (H : HR n0 w0 ρ h w) (A : At ρ b o len cap x ad C pl) (hC : 0 < C)
    (e : h.store b (o + j) l = some h') (r : VRs ρ l vs) : ∃ w', (storeCells (ad.add j) vs).run P w = .ok () w' ∧ HR n0 w0 ρ h' w' ∧ Goes ρ h w ρ h' w' := by
  rcases A.adr with h1 | ⟨_, h1⟩
  · rw [h1, add_eq]
    have := store_run (P := P) H e A.at_ r
    rwa [← Nat.add_assoc] at this
  · omega

/-! the two ways of an append -/

/-- What an append asks ahead of all: how many come, and which cells. -/
structure Src (P : Program) (ts tx elem : Nat) (info : TypeInfo) (x : Value) (n : Nat) (vs : List Value) (w : World) : Prop where
  len : vs.length = n * info.size
  pre : ∀ (s : Value) (ats : Array TypeId) (args : Array Value) (ty : Nat) (sLen sCap : Nat) (base : Option Addr), ats[0]? = some ts → ats[1]? = some tx → args[0]? = some s → args[1]? = some x → s = .slice base sLen sCap → P.underlying ts = some (.slice elem) → P.info? elem = some info →
    (sLen + n ≤ sCap → (Builtin.append_ ats ty args).run P w = ((match base with | some a => storeCells (a.add (sLen * info.size)) vs | none => pure ()).run P w).andThen fun _ w' => .ok (.slice base (sLen + n) sCap) w') ∧
    (∀ (z : Value) (olds : List Value), sCap < sLen + n → info.zero = some z → ((sLen + n : Nat) : Int) ≤ 9223372036854775807 → Builtin.nextslicecap (sLen + n) sCap * info.bytes ≤ 281474976710656 →
      (∀ w' : World, (∀ a, w'.cell? a = w.cell? a) → (Builtin.firstCells info.size sLen s).run P w' = .ok olds.toArray w') →
      (Builtin.append_ ats ty args).run P w = .ok (.slice (some ⟨w.heap.size, 0, none⟩) (sLen + n) (grownCap w (sLen + n) sCap elem))
        (w.drew.alloc (.cells (olds.toArray ++ vs.toArray ++ Builtin.zeroCells z.cells (grownCap w (sLen + n) sCap elem - (sLen + n))) elem)))

theorem isIntT_false {t : Nat} (e : isIntT P t = false) : ∃ d, P.underlying t = some d ∧ ∀ k, d ≠ .int k := by
  unfold isIntT at e
  split at e
  · cases e
  · rename_i d h1 h2
    exact ⟨d, h2, fun k hk => h1 k hk⟩
  · cases e

theorem isIntT_true {t : Nat} (e : isIntT P t = true) (hd : (P.underlying t).isSome = true) : ∃ k, P.underlying t = some (.int k) := by
  unfold isIntT at e
  split at e
  · rename_i k h; exact ⟨k, h⟩
  · cases e
  · rename_i h; rw [h] at hd; cases hd

theorem src_plain {ts tx elem : Nat} {info : TypeInfo} {x : Value} {n : Nat} {vs : List Value} (ht : isIntT P tx = false) (hl : vs.length = n * info.size) (h1 : ∀ w', (Builtin.lenOf x).run P w' = .ok n w')
    (h2 : ∀ w' : World, (∀ a, w'.cell? a = w.cell? a) → (Builtin.firstCells info.size n x).run P w' = .ok vs.toArray w') : Src P ts tx elem info x n vs w := by
  refine ⟨hl, fun s ats args ty sLen sCap base a0 a1 b0 b1 hs hu hi => ?_⟩
  subst hs
  obtain ⟨d, hd, hne⟩ := isIntT_false ht
  refine ⟨fun hfit => ?_, fun z olds hg hzero h63 hcap holds => ?_⟩
  · simp only [Builtin.append_, a0, a1, b0, b1, Sem.run_bind, run_underlying hu, run_underlying hd, Result.andThen_ok, sizeT_run (sizeT_info hi), Sem.run_pure]
    simp only [Bool.false_eq_true, if_false, h1, Result.andThen_ok, hfit, if_true, Bool.not_false, Sem.run_bind, h2 w (fun _ => rfl)]
    cases base <;> simp
  · have hn : ¬ (sLen + n ≤ sCap) := by omega
    have h63' : ¬ (9223372036854775807 < ((sLen : Int) + (n : Int))) := by omega
    have h48' : ¬ (281474976710656 < Builtin.nextslicecap (sLen + n) sCap * info.bytes) := by omega
    simp only [Builtin.append_, a0, a1, b0, b1, Sem.run_bind, run_underlying hu, run_underlying hd, Result.andThen_ok, sizeT_run (sizeT_info hi), Sem.run_pure]
    simp only [Bool.false_eq_true, if_false]
    have e1 := h2 w.drew (fun _ => rfl)
    have e2 := holds w.drew (fun _ => rfl)
    simp [typeInfo, zeroValue, hi, hzero, h63', h48', Question.forced, e1, e2, newRow, grownCap, h1, hn]
    congr 2
    apply Array.ext'
    simp [List.append_assoc]

theorem src_zeros {ts tx elem k : Nat} {ik : IntKind} {info : TypeInfo} {q : IntKind} {n : Nat} {z : Value} (ht : P.underlying tx = some (.int ik)) (hz : info.zero = some z) (hk : info.size = k) (hzs : z.cells.size = k) (hb : n * info.bytes ≤ 1099511627776) (hn : n ≤ 1099511627776) :
    Src P ts tx elem info (.int q n) n ((Array.range (n * k)).map (z.cells[· % z.cells.size]!)).toList w := by
  refine ⟨by simp [hk], fun s ats args ty sLen sCap base a0 a1 b0 b1 hs hu hi => ?_⟩
  subst hs
  have wn : IntKind.i64.wrap (n : Int) = n := by rw [wrap_i64]; split <;> omega
  have hbig : ¬ ((n : Int) * (info.bytes : Int) > 2 ^ 48) := by
    have : ((n * info.bytes : Nat) : Int) ≤ 1099511627776 := by omega
    rw [Int.natCast_mul] at this
    simp; omega
  have hneg : ¬ ((n : Int) < 0) := by omega
  have happ : ∀ w : World, ((if n * info.size = 0 then pure #[] else do pure (Builtin.zeroCells (← zeroValue elem).cells n) : Sem (Array Value))).run P w = .ok ((Array.range (n * k)).map (z.cells[· % z.cells.size]!)) w := fun w => by
    by_cases h0 : n * info.size = 0
    · rw [if_pos h0]; rw [hk] at h0; simp [h0]
    · rw [if_neg h0]
      simp only [Sem.run_bind, run_zeroValue_of hi hz, Result.andThen_ok, Sem.run_pure, Builtin.zeroCells, hzs]
  refine ⟨fun hfit => ?_, fun z' olds hg hzero h63 hcap holds => ?_⟩
  · simp only [Builtin.append_, a0, a1, b0, b1, Sem.run_bind, run_underlying hu, run_underlying ht, Result.andThen_ok, sizeT_run (sizeT_info hi), Sem.run_pure, if_true, asInt, asIntOf, wn, hneg, if_false, run_typeInfo_of hi, hbig, Int.toNat_natCast, hfit,
      Bool.not_true, Bool.false_eq_true]
    by_cases h0 : n * info.size = 0
    · have := happ w
      rw [if_pos h0] at this
      simp only [if_pos h0, this, Result.andThen_ok]
      cases base <;> simp
    · have := happ w
      rw [if_neg h0] at this
      simp only [if_neg h0, Sem.run_bind] at this ⊢
      rw [this]
      cases base <;> simp
  · rw [hz] at hzero
    cases hzero
    have hn' : ¬ (sLen + n ≤ sCap) := by omega
    have h63' : ¬ (9223372036854775807 < ((sLen : Int) + (n : Int))) := by omega
    have h48' : ¬ (281474976710656 < Builtin.nextslicecap (sLen + n) sCap * info.bytes) := by omega
    have e2 := holds w.drew (fun _ => rfl)
    have e1 := happ w.drew
    simp only [Builtin.append_, a0, a1, b0, b1, Sem.run_bind, run_underlying hu, run_underlying ht, Result.andThen_ok, sizeT_run (sizeT_info hi), Sem.run_pure, if_true, asInt, asIntOf, wn, hneg, if_false, run_typeInfo_of hi, hbig, Int.toNat_natCast, hn',
      Bool.not_true, Bool.false_eq_true]
    by_cases h0 : n * info.size = 0
    · rw [if_pos h0] at e1
      have e1' : (pure #[] : Sem (Array Value)).run P w.drew = .ok #[] w.drew := rfl
      rw [e1'] at e1
      have e3 : (Array.range (n * k)).map (z.cells[· % z.cells.size]!) = #[] := by rw [← hk, h0]; simp
      rw [e3]
      simp [typeInfo, zeroValue, hi, hz, h63', h48', Question.forced, e2, newRow, grownCap, h0, Builtin.zeroCells]
    · rw [if_neg h0] at e1
      have e3 : Builtin.zeroCells z.cells n = (Array.range (n * k)).map (z.cells[· % z.cells.size]!) := by simp [Builtin.zeroCells, hzs]
      simp [typeInfo, zeroValue, hi, hz, h63', h48', Question.forced, e2, newRow, grownCap, if_neg h0, e3]
      congr 2
      apply Array.ext'
      simp [List.append_assoc]

theorem grow_fits {need old bytes : Nat} (h : old < need) (hb : need * bytes ≤ 1099511627776) : Builtin.nextslicecap need old * bytes ≤ 281474976710656 :=
  growslice_fits h (by omega)

/-- An append that makes a new block. -/
theorem grow_sound {ts tx elem : Nat} {info : TypeInfo} {s x : Value} {z : Value} {n sLen sCap : Nat} {base : Option Addr} {vs olds : List Value} {old new : List AV} {r : AV} {h1 h' : AH} {ats : Array TypeId} {args : Array Value} {ty : Nat}
    (H1 : HR n0 w0 ρ h1 w) (G1 : Goes ρ h w ρ h1 w) (S : Src P ts tx elem info x n vs w) (a0 : ats[0]? = some ts) (a1 : ats[1]? = some tx) (b0 : args[0]? = some s) (b1 : args[1]? = some x) (hs : s = .slice base sLen sCap) (hu : P.underlying ts = some (.slice elem)) (hi : P.info? elem = some info)
    (hz : info.zero = some z) (hzs : z.cells.size = info.size) (hg : sCap < sLen + n) (hbytes : 0 < info.bytes) (ro : VRs ρ old olds) (rn : VRs ρ new vs) (lo : olds.length = sLen * info.size)
    (ho : ∀ w' : World, (∀ a, w'.cell? a = w.cell? a) → (Builtin.firstCells info.size sLen s).run P w' = .ok olds.toArray w') (e : growA h1 old new (sLen + n) info.size info.bytes = some (r, h')) :
    Ran P n0 w0 ρ h (Builtin.append_ ats ty args) w r h' := by
  unfold growA at e
  split at e
  · rename_i hroom
    have hroom' := Nat.le_of_ble_eq_true hroom
    simp only [roomN] at hroom'
    have h63 : ((sLen + n : Nat) : Int) ≤ 9223372036854775807 := by
      have : sLen + n ≤ (sLen + n) * info.bytes := Nat.le_mul_of_pos_right _ hbytes
      omega
    have hrun := (S.pre s ats args ty sLen sCap base a0 a1 b0 b1 hs hu hi).2 z olds hg hz h63 (grow_fits hg hroom') ho
    have hc := grownCap_ge w (sLen + n) sCap elem
    have hsize : (olds.toArray ++ vs.toArray ++ Builtin.zeroCells z.cells (grownCap w (sLen + n) sCap elem - (sLen + n))).size = grownCap w (sLen + n) sCap elem * info.size := by
      simp only [Array.size_append, List.size_toArray, size_zeroCells, hzs, lo, S.len]
      rw [← Nat.add_mul, ← Nat.add_mul]
      congr 1; omega
    obtain ⟨j, rfl, ρ', hρ', k1, k2⟩ := newCells_sound H1.drew e (ro.append rn) (arr := olds.toArray ++ vs.toArray ++ Builtin.zeroCells z.cells (grownCap w (sLen + n) sCap elem - (sLen + n))) (fun j hj => by
        rw [Array.getElem?_append_left (by simpa using hj)]
        simp) (by simp) elem (0, 0) (by simp)
    have hg2 := G1.trans ((Goes.drew (Goes.refl ρ h1 w)).trans k2)
    refine ⟨_, _, ρ', hrun, ?_, hg2, k1⟩
    have := VR.sliceO (o := 0) (len := sLen + n) (sz := info.size) (c := grownCap w (sLen + n) sCap elem) hρ' hc (by simp only [hsize]; omega)
    simpa using this
  · cases e

end Go.Ab

namespace Go.Ab
open Go.RowKit

variable {P : Program} {n0 : Nat} {w0 : World} {ρ : Pl} {h : AH} {w : World}

theorem appSrc_sound {ts tx elem n : Nat} {info : TypeInfo} {z : List AV} {zv : Value} {a : AV} {x : Value} {l : List AV} (H : HR n0 w0 ρ h w) (ra : VR ρ a x) (hz : info.zero = some zv) (hzs : z.length = info.size) (hs : VRs ρ z zv.cells.toList) (h0 : 0 < info.size)
    (e : appSrc P tx info z a h = some (n, l)) : ∃ vs, VRs ρ l vs ∧ Src P ts tx elem info x n vs w := by
  unfold appSrc at e
  split at e
  · rename_i ht
    obtain ⟨vs, g1, g2, g3, g4⟩ := srcA_sound (P := P) H ra e
    refine ⟨vs, g1, src_plain ht g2 g3 fun w' hw => ?_⟩
    have := g4 w' hw n (Nat.le_refl _)
    rwa [← g2, List.take_length] at this
  · rename_i ht
    split at e
    · rename_i d m hd hm
      obtain ⟨ik, hik⟩ := isIntT_true ht (by simp [hd])
      obtain ⟨k, rfl⟩ := natOf_int ra hm
      split at e
      · rename_i h1 h2
        cases e
        have h1' := Nat.le_of_ble_eq_true h1
        have h2' := Nat.le_of_ble_eq_true h2
        simp only [roomN] at h1' h2'
        have hzc : zv.cells.size = info.size := by have := hs.1; simp at this; omega
        exact ⟨_, zeros_rel hs n info.size hzs h0, src_zeros hik hz rfl hzc h1' h2'⟩
      · cases e
    · cases e

theorem Goes.dropped {b : Id} : Goes ρ h w ρ (h.set b none) w :=
  ⟨.refl ρ, Nat.le_refl _, by rw [AH.next_set]; exact Nat.le_refl _, fun _ _ _ => rfl, fun i bi hb => by
    rw [AH.get_set] at hb
    split at hb
    · cases hb
    · exact .inr ⟨bi, hb, id, fun _ h => h⟩, fun _ _ h => .inl h⟩

/-- An open slice is lengthened within its own block: the block takes a new number. -/
theorem move_sound {b : Id} {o len n : Nat} {pl : Place} {vs new : List AV} {news : List Value} {info : TypeInfo} {C : Nat} {r : AV} {h' : AH} (H : HR n0 w0 ρ h w) (hb : h.get b = some (.cells true vs)) (hp : ρ b = some pl)
    (hC : o + C * info.size = pl.ce) (htip : o + len * info.size = vs.length) (hfit : len + n ≤ C) (hall : allCells new = true) (rn : VRs ρ new news) (ln : news.length = n * info.size)
    (e : growA (h.set b none) (dropN o vs) new (len + n) info.size info.bytes = some (r, h')) :
    ∃ w' ρ', (storeCells ((⟨pl.blk, pl.sh + o, none⟩ : Addr).add (len * info.size)) news).run P w = .ok () w' ∧ VR ρ' r (.slice (some ⟨pl.blk, pl.sh + o, none⟩) (len + n) C) ∧ Goes ρ h w ρ' h' w' ∧ HR n0 w0 ρ' h' w' := by
  unfold growA at e
  split at e <;> try (cases e; done)
  unfold newCells at e
  split at e <;> try (cases e; done)
  rename_i i h1 hn
  cases e
  obtain ⟨⟨cs, el, fr, b1, b2, b3, b4, b5⟩, hown⟩ := H.at hb hp
  have hk : pl.blk < w.heap.size := H.lt _ _ hp
  have hmul : (len + n) * info.size ≤ C * info.size := Nat.mul_le_mul_right _ hfit
  rw [Nat.add_mul] at hmul
  obtain ⟨cs', s1, s2, s3⟩ := storeCells_run (P := P) news pl.blk (pl.sh + o + len * info.size) 0 w cs el fr b1 (by omega) (fun j p q => thawed (b5 rfl) j (by omega)) (oneCells rn hall)
  have H1 := H.drop b
  obtain ⟨hi, hnext, hget⟩ := AH.new_spec hn
  have hfree : ρ i = none := by rw [hi, AH.next_set]; exact H.fresh _ (Nat.le_refl _)
  have hib : i ≠ b := fun e => by rw [e] at hfree; rw [hp] at hfree; cases hfree
  have hx := Pl.with_ext (ρ := ρ) (i := i) ⟨pl.blk, pl.sh + o, pl.ce - o⟩ hfree
  have hvs : vs.length ≤ pl.ce := b3
  have hB : BR (ρ.with i ⟨pl.blk, pl.sh + o, pl.ce - o⟩) (w.setBlock pl.blk (.cells cs' el fr)) ⟨pl.blk, pl.sh + o, pl.ce - o⟩ (.cells true (dropN o vs ++ new)) := by
    refine ⟨cs', el, fr, setBlock_same hk, by simp only; omega, ?_, fun j a ha => ?_, fun ho => by have := b5 ho; omega⟩
    · simp only [List.length_append, dropN_eq, List.length_drop, rn.1, ln]; omega
    · simp only
      have hl : (dropN o vs).length = len * info.size := by rw [dropN_eq, List.length_drop]; omega
      rcases Nat.lt_or_ge j (len * info.size) with hj | hj
      · rw [List.getElem?_append_left (by omega), dropN_eq, List.getElem?_drop] at ha
        obtain ⟨v, hv, hr⟩ := b4 _ _ ha
        refine ⟨v, ?_, hr.mono hx⟩
        rw [s3, if_neg (by omega), ← hv]; congr 1; omega
      · rw [List.getElem?_append_right (by omega), hl] at ha
        obtain ⟨v, hv, hr⟩ := rn.get ha
        refine ⟨v, ?_, hr.mono hx⟩
        have hlt := (List.getElem?_eq_some_iff.1 hv).1
        rw [s3, if_pos (by omega), ← hv]; congr 1; omega
  have hg' : ∀ j bj, h'.get j = some bj → (j = i ∧ bj = .cells true (dropN o vs ++ new)) ∨ (j ≠ i ∧ (h.set b none).get j = some bj) := fun j bj hj => by
    rw [hget] at hj
    split at hj
    · rename_i e; cases hj; exact .inl ⟨e, rfl⟩
    · rename_i e; exact .inr ⟨e, hj⟩
  have old : ∀ j bj, j ≠ i → h'.get j = some bj → j ≠ b ∧ h.get j = some bj := fun j bj hji hj => by
    rcases hg' j bj hj with ⟨h1, _⟩ | ⟨_, h2⟩
    · exact absurd h1 hji
    · rw [AH.get_set] at h2
      split at h2
      · cases h2
      · rename_i hne; exact ⟨hne, h2⟩
  refine ⟨_, _, by rw [add_eq]; exact s1, ?_, ⟨hx, by rw [setBlock_size]; exact Nat.le_refl _, by rw [hnext, AH.next_set]; omega, fun cb _ hno => setBlock_other fun e => hno b _ pl hb rfl hp e.symm, ?_, ?_⟩, ?_⟩
  · have := VR.sliceO (o := 0) (len := len + n) (sz := info.size) (c := C) (Pl.with_same ρ i ⟨pl.blk, pl.sh + o, pl.ce - o⟩) hfit (by simp only; omega)
    simpa using this
  · intro j bj hj
    by_cases hji : j = i
    · subst hji
      refine .inl ⟨by rw [hi, AH.next_set]; exact Nat.le_refl _, fun pj hpj => ?_⟩
      rw [Pl.with_same] at hpj; cases hpj
      exact .inr ⟨b, _, pl, hb, rfl, hp, rfl⟩
    · obtain ⟨_, h2⟩ := old j bj hji hj
      refine .inr ⟨bj, h2, id, fun pj hpj => ?_⟩
      rcases Pl.with_inv j pj hpj with h3 | h3
      · exact absurd h3 hji
      · exact h3
  · intro j pj hpj
    rcases Pl.with_inv j pj hpj with h3 | h3
    · subst h3; exact .inr (by rw [hi, AH.next_set]; exact Nat.le_refl _)
    · exact .inl h3
  · refine H1.put hx (Pl.with_same ρ i _) Pl.with_inv hg' (by omega) (by rw [hi]; omega) hB (fun _ => hown rfl) (fun k hk' _ => setBlock_other hk') (fun j bj pj hji hj hpj e => ?_) (by rw [setBlock_size]; exact Nat.le_refl _) (below_setBlock (hown rfl))
    obtain ⟨hjb, h2⟩ := old j bj hji hj
    exact H.inj b j _ bj pl pj hb h2 hp hpj (Ne.symm hjb) rfl e.symm

theorem appendA_sound {ts tx : Nat} {a b r : AV} {s x : Value} {h' : AH} {ats : Array TypeId} {args : Array Value} {ty : Nat} (H : HR n0 w0 ρ h w) (a0 : ats[0]? = some ts) (a1 : ats[1]? = some tx) (b0 : args[0]? = some s) (b1 : args[1]? = some x)
    (ra : VR ρ a s) (rb : VR ρ b x) (e : appendA P ts tx a b h = some (r, h')) : Ran P n0 w0 ρ h (Builtin.append_ ats ty args) w r h' := by
  unfold appendA at e
  split at e <;> try (cases e; done)
  rename_i elem hu
  split at e <;> try (cases e; done)
  rename_i info z hi hz
  obtain ⟨i', zv, hi', hzv, hs⟩ := zeroT_info (ρ := ρ) hz
  rw [hi] at hi'; cases hi'
  split at e <;> try (cases e; done)
  rename_i q1 q2 q3
  have q1' := Nat.eq_of_beq_eq_true q1
  rw [Nat.blt_eq] at q2 q3
  have hzc : zv.cells.size = info.size := by have := hs.1; simp at this; omega
  split at e <;> try (cases e; done)
  rename_i n new hsrc
  obtain ⟨vs, rn, S⟩ := appSrc_sound (P := P) (ts := ts) (elem := elem) H rb hzv q1' hs q2 hsrc
  have fits := fun (sLen sCap : Nat) (base : Option Addr) (hsv : s = .slice base sLen sCap) => (S.pre s ats args ty sLen sCap base a0 a1 b0 b1 hsv hu hi).1
  unfold appendTo at e
  split at e
  · -- nil
    cases ra
    split at e
    · cases e
      refine ⟨.slice none 0 0, w, ρ, ?_, .nilslice, .refl ρ h w, H⟩
      rw [fits 0 0 none rfl (Nat.le_refl _)]; rfl
    · rename_i n'
      exact grow_sound (olds := []) H (.refl ρ h w) S a0 a1 b0 b1 rfl hu hi hzv hzc (by omega) q3 (.nil ρ) rn (by simp) (fun w' _ => run_firstCells_none w' _ _ _ _) (by rw [Nat.zero_add]; exact e)
  · -- a known capacity
    rename_i bb o len c
    obtain ⟨ad, C, pl, A⟩ := slice_at ra
    obtain rfl := A.is c rfl
    have hv := A.val
    split at e
    · rename_i hle
      have hle' := Nat.le_of_ble_eq_true hle
      split at e
      · cases e
        refine ⟨s, w, ρ, ?_, ra, .refl ρ h w, H⟩
        have hv0 : vs = [] := List.length_eq_zero_iff.1 (by rw [S.len]; simp)
        rw [fits _ _ _ hv hle', hv0, hv]; rfl
      · rename_i n'
        split at e
        · rename_i h1 hst
          cases e
          obtain ⟨w', k1, k2, k3⟩ := store_slice (P := P) H A (by omega) hst rn
          refine ⟨.slice (some ad) (len + (n' + 1)) C, w', ρ, by rw [fits _ _ _ hv hle']; simp only [k1, Result.andThen_ok], ?_, k3, k2⟩
          rcases A.adr with g | ⟨_, g⟩
          · rw [g]; exact .slice A.at_
          · omega
        · cases e
    · rename_i hle
      have hle' : C < len + n := by
        rcases Nat.lt_or_ge C (len + n) with h | h
        · exact h
        · rw [Nat.ble_eq_true_of_le h] at hle; cases hle
      split at e
      · rename_i old hold
        obtain ⟨olds, g1, g2, g3⟩ := load_slice H A hold
        exact grow_sound H (.refl ρ h w) S a0 a1 b0 b1 hv hu hi hzv hzc hle' q3 g2 rn g1 (fun w' hw => by rw [hv]; exact run_firstCells_some w' _ _ ad _ _ olds g1 fun j v hj => by rw [hw]; exact g3 j v hj) e
      · cases e
  · -- an open one
    rename_i bb o len sz
    obtain ⟨ad, C, pl, A⟩ := slice_at ra
    obtain ⟨hlen, hop⟩ := A.op sz rfl
    have hv := A.val
    split at e
    · cases e
      refine ⟨s, w, ρ, ?_, ra, .refl ρ h w, H⟩
      have hv0 : vs = [] := List.length_eq_zero_iff.1 (by rw [S.len]; simp)
      rw [fits _ _ _ hv (by omega), hv0, hv]; rfl
    · rename_i n'
      split at e <;> try (cases e; done)
      rename_i cvs hb hsz
      have hsz' := Nat.eq_of_beq_eq_true hsz
      subst hsz'
      have hce : cvs.length ≤ pl.ce := by
        obtain ⟨⟨cs, el, fr, b1', b2, b3, _⟩, _⟩ := H.at hb A.at_
        exact b3
      split at e
      · rename_i hle
        have hle' := Nat.le_of_ble_eq_true hle
        split at e
        · rename_i h1 hst
          cases e
          have hpos : 0 < (len + (n' + 1)) * info.size := Nat.mul_pos (by omega) q2
          rcases hop with ⟨_, g⟩ | ⟨had, hC⟩
          · have hx : (len + (n' + 1)) * info.size = (len + n'.succ) * info.size := rfl
            omega
          have hfit : len + (n' + 1) ≤ C := Nat.le_of_mul_le_mul_right (show (len + n'.succ) * info.size ≤ C * info.size by omega) q2
          obtain ⟨w', k1, k2, k3⟩ := store_slice (P := P) H A (by omega) hst rn
          refine ⟨.slice (some ad) (len + (n' + 1)) C, w', ρ, by rw [fits _ _ _ hv hfit]; simp only [k1, Result.andThen_ok], ?_, k3, k2⟩
          rw [had]; exact .sliceO A.at_ hfit hC
        · cases e
      · split at e <;> try (cases e; done)
        rename_i htip hall
        have htip' := Nat.eq_of_beq_eq_true htip
        by_cases hfit : len + (n' + 1) ≤ C
        · rcases hop with ⟨g, _⟩ | ⟨had, hC⟩
          · omega
          obtain ⟨w', ρ', k1, k2, k3, k4⟩ := move_sound (P := P) H hb A.at_ hC htip' hfit hall rn S.len e
          refine ⟨_, w', ρ', ?_, k2, k3, k4⟩
          rw [fits _ _ _ hv hfit, had]
          simp only [k1, Result.andThen_ok]
        · have hold : h.load bb o (len * info.size) = some (dropN o cvs) := by
            have ht : ∀ (l : List AV), takeN l.length l = some l := fun l => by
              induction l with
              | nil => rfl
              | cons a l ih => simp [takeN, ih]
            have := ht (dropN o cvs)
            have hl : (dropN o cvs).length = len * info.size := by rw [dropN_eq, List.length_drop]; omega
            rw [hl] at this
            simp only [AH.load, hb, getN, this]
          obtain ⟨olds, g1, g2, g3⟩ := load_slice H A hold
          exact grow_sound (H.drop bb) Goes.dropped S a0 a1 b0 b1 hv hu hi hzv hzc (by omega) q3 g2 rn g1 (fun w' hw => by rw [hv]; exact run_firstCells_some w' _ _ ad _ _ olds g1 fun j v hj => by rw [hw]; exact g3 j v hj) e
  · cases e

end Go.Ab

namespace Go.Ab
open Go.RowKit

variable {P : Program} {n0 : Nat} {w0 : World} {ρ : Pl} {h : AH} {w : World}

theorem takeN_take {n : Nat} {l l' : List AV} {vs : List Value} (r : VRs ρ l vs) (e : takeN n l = some l') : VRs ρ l' (vs.take n) := by
  obtain ⟨h1, h2⟩ := takeN_spec e
  have hn : n ≤ l.length := by
    rcases Nat.eq_zero_or_pos n with h0 | h0
    · omega
    · have := h2 (n - 1) (by omega)
      rw [List.getElem?_eq_getElem (by omega : n - 1 < l'.length)] at this
      have := (List.getElem?_eq_some_iff.1 this.symm).1
      omega
  refine ⟨by simp [h1, ← r.1]; omega, fun i a v ha hv => ?_⟩
  rw [List.getElem?_take] at hv
  split at hv
  · rename_i hi
    rw [h2 i hi] at ha
    exact r.2 i a v ha hv
  · cases hv

theorem copyA_sound {td : Nat} {a b r : AV} {d x : Value} {h' : AH} {ats : Array TypeId} {args : Array Value} {ty : Nat} (H : HR n0 w0 ρ h w) (a0 : ats[0]? = some td) (b0 : args[0]? = some d) (b1 : args[1]? = some x)
    (ra : VR ρ a d) (rb : VR ρ b x) (e : copyA P td a b h = some (r, h')) : Ran P n0 w0 ρ h (Builtin.copy_ ats ty args) w r h' := by
  unfold copyA at e
  split at e <;> try (cases e; done)
  rename_i elem hu
  split at e <;> try (cases e; done)
  rename_i sz hsz
  have hm0 : ∀ n, Nat.min n 0 = 0 := fun n => Nat.min_zero n
  split at e <;> try (cases e; done)
  · cases ra
    have key : ∀ n, (∀ w', (Builtin.lenOf x).run P w' = .ok n w') → (Builtin.firstCells sz 0 x).run P w = .ok #[] w → Ran P n0 w0 ρ h (Builtin.copy_ ats ty args) w (.int .i64 (.ofNat 0)) h := fun n h1 h2 => by
      refine ⟨.int .i64 0, w, ρ, ?_, .int _ _, .refl ρ h w, H⟩
      simp only [Builtin.copy_, a0, b0, b1, Sem.run_bind, run_underlying hu, Result.andThen_ok, h1, hm0, sizeT_run hsz, h2, Sem.run_pure]; rfl
    split at e <;> cases e
    · cases rb
      exact key 0 (fun _ => rfl) (run_firstCells_none w _ _ _ _)
    · obtain ⟨ad, C, pl, A⟩ := slice_at rb
      have hv := A.val
      subst hv
      refine key _ (fun _ => rfl) ?_
      simp only [Builtin.firstCells, Nat.zero_mul]; rfl
    · cases rb
      refine key _ (fun _ => rfl) ?_
      simp only [Builtin.firstCells]
      have : ∀ s : ByteArray, ((s.extract 0 0).data.map fun b => Value.int .u8 b.toNat) = #[] := fun s => by
        apply Array.ext'
        simp
      rw [this]; rfl
  · rename_i bb o len cap
    split at e <;> try (cases e; done)
    rename_i n l hsrc
    obtain ⟨vs, g1, g2, g3, g4⟩ := srcA_sound (P := P) H rb hsrc
    obtain ⟨ad, C, pl, A⟩ := slice_at ra
    simp only at e
    split at e <;> try (cases e; done)
    rename_i l' hl'
    have rt := takeN_take g1 hl'
    have hmin : Nat.min n len = min n len := rfl
    have hf := g4 w (fun _ => rfl) (min n len) (Nat.min_le_left _ _)
    split at e
    · rename_i hm
      cases e
      refine ⟨.int .i64 0, w, ρ, ?_, .int _ _, .refl ρ h w, H⟩
      have hv := A.val
      subst hv
      rw [hm] at hf
      simp only [Builtin.copy_, a0, b0, b1, Sem.run_bind, run_underlying hu, Result.andThen_ok, g3, hmin, hm, sizeT_run hsz, hf, Sem.run_pure]
      simp only [Nat.zero_mul, List.take_zero, store_none, Result.andThen_ok]; rfl
    · rename_i m hm
      split at e
      · rename_i h1 hst
        cases e
        have hlen : 0 < len := by omega
        have hst' : h.store bb (o + 0) l' = some h' := hst
        have hC : 0 < C ∨ ad = ⟨pl.blk, pl.sh + o, none⟩ := by
          rcases A.adr with g | ⟨g, _⟩
          · exact .inr g
          · omega
        have hst2 : ∃ w', (storeCells ad (vs.take ((m + 1) * sz))).run P w = .ok () w' ∧ HR n0 w0 ρ h' w' ∧ Goes ρ h w ρ h' w' := by
          rcases A.adr with g | ⟨g, _⟩
          · rw [g]
            exact store_run (P := P) H hst A.at_ (by rw [show m + 1 = min n len from hm.symm]; exact rt)
          · omega
        obtain ⟨w', k1, k2, k3⟩ := hst2
        refine ⟨.int .i64 (min n len : Nat), w', ρ, ?_, .int _ _, k3, k2⟩
        have hv := A.val
        subst hv
        rw [hm] at hf
        simp only [Builtin.copy_, a0, b0, b1, Sem.run_bind, run_underlying hu, Result.andThen_ok, g3, hmin, hm, sizeT_run hsz, hf, k1, Sem.run_pure]; rfl
      · cases e

theorem lenA_sound {t : Nat} {a r : AV} {x : Value} {ats : Array TypeId} {args : Array Value} {ty : Nat} (H : HR n0 w0 ρ h w) (a0 : ats[0]? = some t) (b0 : args[0]? = some x) (ra : VR ρ a x) (e : lenA P t a h = some r) :
    ∃ v, (Builtin.len_ ats ty args).run P w = .ok v w ∧ VR ρ r v := by
  unfold lenA at e
  simp only at e
  split at e
  · rename_i n hn
    cases e
    refine ⟨goInt n, ?_, .int _ _⟩
    split at hn <;> first | (cases hn; done) | skip
    · rename_i s hu
      cases ra with
      | str hs =>
      cases hn
      rename_i bs
      have hlen : bs.size = s.length := by rw [← hs, bytesOfArr_length]
      simp only [Builtin.len_, a0, b0, Sem.run_bind, run_underlying hu, Result.andThen_ok, hlen]; rfl
    · rename_i m el hu
      cases hn
      cases x <;> (simp only [Builtin.len_, a0, b0, Sem.run_bind, run_underlying hu, Result.andThen_ok]; rfl)
    · rename_i arr hu
      split at hn <;> try (cases hn; done)
      rename_i m el hu2
      cases hn
      cases x <;> (simp only [Builtin.len_, a0, b0, Sem.run_bind, run_underlying hu, run_underlying hu2, Result.andThen_ok]; rfl)
    · rename_i el hu
      cases ra; cases hn
      simp only [Builtin.len_, a0, b0, Sem.run_bind, run_underlying hu, Result.andThen_ok]; rfl
    · rename_i el b o k c hu
      obtain ⟨ad, C, pl, A⟩ := slice_at ra
      cases hn
      rw [A.val] at b0
      simp only [Builtin.len_, a0, b0, Sem.run_bind, run_underlying hu, Result.andThen_ok]; rfl
    · rename_i k el hu
      cases ra; cases hn
      simp only [Builtin.len_, a0, b0, Sem.run_bind, run_underlying hu, Result.andThen_ok]; rfl
    · rename_i k el m hu
      cases ra with
      | map hp =>
      split at hn <;> try (cases hn; done)
      rename_i es clock hg
      cases hn
      obtain ⟨ces, b1, b2⟩ := map_block H hg hp
      have hsz : ces.size = es.length := by have := b2.1; simp at this; omega
      simp only [Builtin.len_, a0, b0, Sem.run_bind, run_underlying hu, Result.andThen_ok, run_getObj_of b1 rfl, hsz]; rfl
  · cases e

theorem capA_sound {t : Nat} {a r : AV} {x : Value} {ats : Array TypeId} {args : Array Value} {ty : Nat} (a0 : ats[0]? = some t) (b0 : args[0]? = some x) (ra : VR ρ a x) (e : capA P t a = some r) :
    Gives P ρ (Builtin.cap_ ats ty args) r := by
  unfold capA at e
  split at e <;> try (cases e; done)
  · rename_i el hu
    cases ra; cases e
    refine ⟨goInt 0, fun w => ?_, .int _ _⟩
    simp only [Builtin.cap_, a0, b0, Sem.run_bind, run_underlying hu, Result.andThen_ok]; rfl
  · rename_i el b o k c hu
    obtain ⟨ad, C, pl, A⟩ := slice_at ra
    obtain rfl := A.is c rfl
    cases e
    rw [A.val] at b0
    refine ⟨goInt C, fun w => ?_, .int _ _⟩
    simp only [Builtin.cap_, a0, b0, Sem.run_bind, run_underlying hu, Result.andThen_ok]; rfl

theorem zeroCells_rel {z : List AV} {zc : Array Value} (r : VRs ρ z zc.toList) (n : Nat) (hk : 0 < z.length) : VRs ρ (repl n z) (Builtin.zeroCells zc n).toList := by
  have := zeros_rel r n z.length rfl hk
  have hs : zc.size = z.length := by have := r.1; simp at this; omega
  simpa [Builtin.zeroCells, hs] using this

theorem clearA_sound {t : Nat} {a : AV} {x : Value} {h' : AH} {ats : Array TypeId} {args : Array Value} {ty : Nat} (H : HR n0 w0 ρ h w) (a0 : ats[0]? = some t) (b0 : args[0]? = some x) (ra : VR ρ a x) (e : clearA P t a h = some h') :
    ∃ w', (Builtin.clear_ ats ty args).run P w = .ok (.tuple #[]) w' ∧ HR n0 w0 ρ h' w' ∧ Goes ρ h w ρ h' w' := by
  unfold clearA at e
  split at e <;> try (cases e; done)
  · rename_i el hu
    cases ra; cases e
    refine ⟨w, ?_, H, .refl ρ _ w⟩
    simp only [Builtin.clear_, a0, b0, Sem.run_bind, run_underlying hu, Result.andThen_ok]; rfl
  · rename_i elem b o n c hu
    obtain ⟨ad, C, pl, A⟩ := slice_at ra
    have hv := A.val
    split at e
    · cases e
      subst hv
      refine ⟨w, ?_, H, .refl ρ _ w⟩
      simp only [Builtin.clear_, a0, b0, Sem.run_bind, run_underlying hu, Result.andThen_ok]; rfl
    · rename_i n'
      split at e <;> try (cases e; done)
      rename_i l hl
      unfold zeroCellsA at hl
      split at hl <;> try (cases hl; done)
      rename_i z hz
      cases hl
      obtain ⟨i, zv, hi, hzv, hs⟩ := zeroT_info (ρ := ρ) hz
      have had : ad = ⟨pl.blk, pl.sh + o, none⟩ := by
        rcases A.adr with g | ⟨g, _⟩
        · exact g
        · omega
      subst hv
      rcases Nat.eq_zero_or_pos z.length with hz0 | hz0
      · -- elements of no cell: nothing is stored
        have hzn : z = [] := List.length_eq_zero_iff.1 hz0
        subst hzn
        have hrep : ∀ n, repl n ([] : List AV) = [] := fun n => by induction n with | zero => rfl | succ n ih => simp [repl, ih]
        rw [hrep] at e
        have hzc : zv.cells = #[] := by have := hs.nil_inv; exact Array.ext' (by simpa using this)
        rw [had] at b0
        obtain ⟨w', k1, k2, k3⟩ := store_run (P := P) H e A.at_ (VRs.nil ρ)
        refine ⟨w', ?_, k2, k3⟩
        have hzz : (Builtin.zeroCells zv.cells (n' + 1)).toList = [] := by simp [Builtin.zeroCells, hzc]
        simp only [Builtin.clear_, a0, b0, Sem.run_bind, run_underlying hu, Result.andThen_ok, run_zeroValue_of hi hzv, hzz, k1, Sem.run_pure]
      · obtain ⟨w', k1, k2, k3⟩ := store_run (P := P) H e A.at_ (zeroCells_rel hs (n' + 1) hz0)
        refine ⟨w', ?_, k2, k3⟩
        rw [had] at b0
        simp only [Builtin.clear_, a0, b0, Sem.run_bind, run_underlying hu, Result.andThen_ok, run_zeroValue_of hi hzv, k1, Sem.run_pure]

theorem minmaxA_sound {isMax : Bool} : ∀ (l : List AV) (a r : AV) (x : Value) (vs : List Value), VR ρ a x → VRs ρ l vs → minmaxA isMax a l = some r →
    Gives P ρ (vs.foldlM (if isMax then Builtin.max2 else Builtin.min2) x) r
  | [], a, r, x, vs, ra, rl, e => by
    rw [rl.nil_inv]
    simp only [minmaxA, Option.some.injEq] at e
    subst e
    exact ⟨x, fun _ => rfl, ra⟩
  | b :: l, a, r, x, vs, ra, rl, e => by
    obtain ⟨y, ys, rfl, rb, rl'⟩ := rl.uncons
    unfold minmaxA at e
    split at e <;> try (cases e; done)
    · rename_i heq; cases heq
    · rename_i k p k' q rr h1
      cases h1
      cases ra; cases rb
      split at e <;> try (cases e; done)
      split at e
      · have := minmaxA_sound (isMax := true) l _ r (.int k (if q > p then q else p)) ys (by rw [ltI_eq]; by_cases hh : p < q <;> simp [hh] <;> exact .int _ _) rl' e
        obtain ⟨v, hv, hr⟩ := this
        refine ⟨v, fun w => ?_, hr⟩
        simp only [if_true] at hv ⊢
        simp only [List.foldlM_cons, Sem.run_bind, Builtin.max2, Sem.run_pure, Result.andThen_ok]
        exact hv w
      · have := minmaxA_sound (isMax := false) l _ r (.int k (if q < p then q else p)) ys (by rw [ltI_eq]; by_cases hh : q < p <;> simp [hh] <;> exact .int _ _) rl' e
        obtain ⟨v, hv, hr⟩ := this
        refine ⟨v, fun w => ?_, hr⟩
        simp only [Bool.false_eq_true, if_false] at hv ⊢
        simp only [List.foldlM_cons, Sem.run_bind, Builtin.min2, Sem.run_pure, Result.andThen_ok]
        exact hv w

end Go.Ab

namespace Go.Ab
open Go.RowKit

variable {P : Program} {n0 : Nat} {w0 : World} {ρ : Pl} {h : AH} {w : World}

theorem rangeA_sound {t : Nat} {a r : AV} {x : Value} {h' : AH} (H : HR n0 w0 ρ h w) (ra : VR ρ a x) (e : rangeA P t a h = some (r, h')) : Ran P n0 w0 ρ h (Instr.range t x) w r h' := by
  unfold rangeA at e
  simp only at e
  split at e <;> try (cases e; done)
  rename_i b hb
  split at e <;> try (cases e; done)
  rename_i i h1 hn
  cases e
  split at hb <;> try (cases hb; done)
  · rename_i s hu
    cases ra with
    | str hs =>
    rename_i bs
    cases hb
    obtain ⟨ρ', hρ', k1, k2⟩ := new_sound H hn (.stringIter bs 0) fun ρ' _ => ⟨rfl, bs, alloc_new w _, hs⟩
    have := VR.ptr (o := 0) hρ'
    refine ⟨_, _, ρ', ?_, this, k2, k1⟩
    simp only [Instr.range, Sem.run_bind, run_underlying hu, Result.andThen_ok, Sem.run_pure, run_newObj]; rfl
  · rename_i k el hu
    cases ra
    cases hb
    obtain ⟨ρ', hρ', k1, k2⟩ := new_sound H hn (.mapIter none 0 #[] 0) fun ρ' _ => ⟨rfl, none, alloc_new w _, rfl⟩
    have := VR.ptr (o := 0) hρ'
    refine ⟨_, _, ρ', ?_, this, k2, k1⟩
    simp only [Instr.range, Sem.run_bind, run_underlying hu, Result.andThen_ok, Sem.run_pure, run_newObj]; rfl
  · rename_i k el m hu
    cases ra with
    | map hp =>
    rename_i pl
    split at hb <;> try (cases hb; done)
    rename_i es clock hg
    cases hb
    obtain ⟨ces, b1, b2⟩ := map_block H hg hp
    obtain ⟨ρ', hρ', k1, k2⟩ := new_sound H hn (.mapIter (some pl.blk) clock #[] clock) fun ρ' hx => ⟨rfl, some pl.blk, alloc_new w _, pl, hx _ _ hp, rfl⟩
    have := VR.ptr (o := 0) hρ'
    refine ⟨_, _, ρ', ?_, this, k2, k1⟩
    simp only [Instr.range, Sem.run_bind, run_underlying hu, Result.andThen_ok, Sem.run_pure, run_getObj_of b1 rfl, run_newObj]; rfl

theorem hasN_eq (n : Nat) : ∀ (l : List Nat), hasN n l = l.contains n
  | [] => rfl
  | x :: l => by
    simp only [hasN, List.contains_cons]
    rw [hasN_eq n l]
    by_cases h : n = x
    · subst h; simp [Nat.beq_refl]
    · have : Nat.beq n x = false := by rw [← Bool.not_eq_true, Nat.beq_eq]; exact h
      rw [this]
      have h2 : (n == x) = false := by simpa using h
      simp [h2]

theorem leftE_sound (seen : List Nat) : ∀ (es : List AE) (ces : List MapEntry), EsR ρ es ces → EsR ρ (leftE seen es) (ces.filter fun e => !seen.contains e.born)
  | [], ces, r => by rw [r.nil_inv]; exact .nil
  | e :: es, ces, r => by
    obtain ⟨ce, ces', rfl, h1, hr⟩ := r.uncons
    have ih := leftE_sound seen es ces' hr
    simp only [leftE, List.filter_cons, hasN_eq, h1.2.2]
    cases hc : seen.contains e.born with
    | true => simpa [hc] using ih
    | false => simpa [hc] using EsR.cons h1 ih

theorem allBorn_sound (last : Nat) : ∀ (es : List AE) (ces : List MapEntry), EsR ρ es ces → ces.all (fun e => decide (e.born ≥ last)) = allBorn last es
  | [], ces, r => by rw [r.nil_inv]; rfl
  | e :: es, ces, r => by
    obtain ⟨ce, ces', rfl, h1, hr⟩ := r.uncons
    simp only [List.all_cons, allBorn, allBorn_sound last es ces' hr, h1.2.2]
    by_cases h : last ≤ e.born
    · rw [Nat.ble_eq_true_of_le h]; simp [h]
    · have : Nat.ble last e.born = false := by rw [← Bool.not_eq_true]; exact fun hb => h (Nat.le_of_ble_eq_true hb)
      rw [this]; simp [h]

theorem nextA_sound {a r : AV} {x : Value} {str : Bool} {ty : Nat} {h' : AH} (H : HR n0 w0 ρ h w) (ra : VR ρ a x) (e : nextA a str h = some (r, h')) : Ran P n0 w0 ρ h (Instr.next x str ty) w r h' := by
  unfold nextA at e
  split at e <;> try (cases e; done)
  rename_i rid
  cases ra with
  | ptr hp =>
  rename_i pl
  have hk : pl.blk < w.heap.size := H.lt _ _ hp
  split at e <;> try (cases e; done)
  · rename_i s pos hg
    obtain ⟨⟨hsh, bs, b1, b2⟩, _⟩ := H.at hg hp
    have hlen : bs.size = s.length := by rw [← b2, bytesOfArr_length]
    rw [hsh]
    split at e
    · rename_i hlt
      rw [Nat.blt_eq] at hlt
      split at e <;> try (cases e; done)
      rename_i c wd hr
      cases e
      unfold runeAt at hr
      split at hr <;> try (cases hr; done)
      rename_i c' hc
      split at hr <;> try (cases hr; done)
      rename_i hlt2
      cases hr
      rw [Nat.blt_eq] at hlt2
      have hpos : pos < bs.size := by omega
      have hc' := nthL_spec hc
      rw [← b2] at hc'
      simp only [bytesOfArr, List.getElem?_map, Option.map_eq_some_iff] at hc'
      obtain ⟨u, hu1, hu2⟩ := hc'
      have hu3 : bs[pos] = u := by
        have := (List.getElem?_eq_some_iff.1 hu1).2
        have h4 : bs.data[pos] = u := by simpa using this
        exact h4
      have hdec := decode_ascii bs pos hpos (by rw [hu3, hu2]; exact hlt2)
      rw [hu3, hu2] at hdec
      have T := H.turn (o := .stringIter bs (pos + 1)) (b' := .iterS s (pos + 1)) hg hp rfl ⟨hsh, bs, setBlock_same hk, b2⟩
      refine ⟨.tuple #[.bool true, goInt pos, .int .i32 (c : Int)], _, ρ, ?_, .tupL (.cons (.bool _) (.cons (.int _ _) (.cons (.int _ _) (.nil ρ)))), T.2, T.1⟩
      simp only [Instr.next, Nat.zero_add, Nat.add_zero, Sem.run_bind, run_getObj_of b1 rfl, Result.andThen_ok, hpos, if_true, hdec, run_setObj_of b1 rfl, Sem.run_pure]
    · rename_i hlt
      have hge : ¬ pos < bs.size := by
        intro hh
        have : Nat.blt pos s.length = true := by rw [Nat.blt_eq]; omega
        rw [this] at hlt; cases hlt
      cases e
      refine ⟨.tuple #[.bool false], w, ρ, ?_, .tupL (.cons (.bool _) (.nil ρ)), .refl ρ h w, H⟩
      simp only [Instr.next, Nat.zero_add, Nat.add_zero, Sem.run_bind, run_getObj_of b1 rfl, Result.andThen_ok, hge, if_false, Sem.run_pure]
  · rename_i q1 q2 q3 hg
    obtain ⟨⟨hsh, cm, b1, b2⟩, _⟩ := H.at hg hp
    simp only at b2
    subst b2
    cases e
    rw [hsh]
    refine ⟨.tuple #[.bool false], w, ρ, ?_, .tupL (.cons (.bool _) (.nil ρ)), .refl ρ h w, H⟩
    simp only [Instr.next, Nat.zero_add, Nat.add_zero, Sem.run_bind, run_getObj_of b1 rfl, Result.andThen_ok, Sem.run_pure]
  · rename_i m since seen stepped hg
    obtain ⟨⟨hsh, cm, b1, pm, hpm, b2⟩, _⟩ := H.at hg hp
    subst b2
    rw [hsh]
    split at e <;> try (cases e; done)
    rename_i es clock hgm
    obtain ⟨ces, c1, c2⟩ := map_block H hgm hpm
    -- the check on what has gone
    have hbad : goneAll seen es stepped = false →
        (!seen.toArray.isEmpty && !ces.isEmpty && ces.all (fun e => decide (e.born ≥ stepped))) = false := fun hb => by
      have hall : ces.all (fun e => decide (e.born ≥ stepped)) = allBorn stepped es := by
        rw [← allBorn_sound stepped es ces.toList c2, Array.all_toList]
      cases seen with
      | nil => simp
      | cons q qs =>
        cases es with
        | nil =>
          have : ces.toList = [] := c2.nil_inv
          have : ces = #[] := Array.ext' (by simpa using this)
          simp [this]
        | cons p ps =>
          simp only [goneAll] at hb
          rw [hall, hb]; simp
    split at e <;> try (cases e; done)
    rename_i hb
    have hbad' := hbad hb
    have hleft := leftE_sound (ρ := ρ) seen es ces.toList c2
    have hfl : (ces.filter fun e => !seen.toArray.contains e.born).toList = ces.toList.filter fun e => !seen.contains e.born := by simp
    split at e <;> try (cases e; done)
    · rename_i hl
      cases e
      rw [hl] at hleft
      have hnil : ces.filter (fun e => !seen.toArray.contains e.born) = #[] := Array.ext' (by rw [hfl, hleft.nil_inv])
      refine ⟨.tuple #[.bool false], w, ρ, ?_, .tupL (.cons (.bool _) (.nil ρ)), .refl ρ h w, H⟩
      simp only [Instr.next, Nat.zero_add, Nat.add_zero, Sem.run_bind, run_getObj_of b1 rfl, run_getObj_of c1 rfl, Result.andThen_ok, hbad', Bool.false_eq_true, if_false, hnil]
      simp [Question.forced]
    · rename_i x1 hl
      split at e <;> try (cases e; done)
      rename_i hold
      rw [Nat.blt_eq] at hold
      cases e
      rw [hl] at hleft
      obtain ⟨ce, ces', hce, ⟨r1, r2, r3⟩, hr'⟩ := hleft.uncons
      rw [hr'.nil_inv] at hce
      have hone : ces.filter (fun e => !seen.toArray.contains e.born) = #[ce] := Array.ext' (by rw [hfl, hce])
      have T := H.turn (o := .mapIter (some pm.blk) since (seen.toArray.push ce.born) clock) (b' := .iterM (some m) since (seen ++ [x1.born]) clock) hg hp rfl
        ⟨hsh, some pm.blk, by rw [setBlock_same hk]; simp [r3], pm, hpm, rfl⟩
      refine ⟨.tuple #[.bool true, ce.key, ce.val], _, ρ, ?_, .tupL (.cons (.bool _) (.cons r1 (.cons r2 (.nil ρ)))), T.2, T.1⟩
      have o1 : (#[ce].filter fun e => decide (e.born < since)) = #[ce] := by
        apply Array.ext'; simp [r3, hold]
      have o2 : (#[ce].filter fun e => decide (e.born ≥ since)) = #[] := by
        apply Array.ext'; simp [r3]; omega
      simp only [Instr.next, Nat.zero_add, Nat.add_zero, Sem.run_bind, run_getObj_of b1 rfl, run_getObj_of c1 rfl, Result.andThen_ok, hbad', Bool.false_eq_true, if_false, hone, o1, o2]
      simp [Question.forced, run_setObj_of b1 rfl]

theorem lastN_spec : ∀ {l : List Nat} {n : Nat}, lastN l = some n → l.toArray.back? = some n
  | [], n, e => by simp [lastN] at e
  | [x], n, e => by simp only [lastN, Option.some.injEq] at e; subst e; simp
  | x :: y :: l, n, e => by
    simp only [lastN] at e
    have := lastN_spec e
    simp at this ⊢
    exact this

theorem findBorn_sound (n : Nat) : ∀ (es : List AE) (ces : List MapEntry) (e : AE), EsR ρ es ces → findBorn n es = some e → ∃ ce, ces.find? (·.born == n) = some ce ∧ VR ρ e.key ce.key ∧ VR ρ e.val ce.val
  | [], ces, e, r, h => by simp [findBorn] at h
  | x :: es, ces, e, r, h => by
    obtain ⟨cx, ces', rfl, h1, hr⟩ := r.uncons
    simp only [findBorn] at h
    split at h
    · rename_i hb
      cases h
      have := Nat.eq_of_beq_eq_true hb
      exact ⟨cx, by simp [h1.2.2, this], h1.1, h1.2.1⟩
    · rename_i hb
      obtain ⟨ce, k1, k2⟩ := findBorn_sound n es ces' e hr h
      refine ⟨ce, ?_, k2⟩
      have : (cx.born == n) = false := by
        rw [h1.2.2]
        have : ¬ x.born = n := fun e => by rw [e, Nat.beq_refl] at hb; cases hb
        simpa using this
      simp [List.find?_cons, this, k1]

theorem entryA_sound {a r : AV} {x : Value} (H : HR n0 w0 ρ h w) (ra : VR ρ a x) (e : entryA a h = some r) : ∃ v, (Instr.entry x).run P w = .ok v w ∧ VR ρ r v := by
  unfold entryA at e
  split at e <;> try (cases e; done)
  rename_i rid
  cases ra with
  | ptr hp =>
  rename_i pl
  split at e <;> try (cases e; done)
  rename_i m since seen stepped hg
  obtain ⟨⟨hsh, cm, b1, pm, hpm, b2⟩, _⟩ := H.at hg hp
  subst b2
  rw [hsh]
  split at e <;> try (cases e; done)
  rename_i stamp es clock hlast hgm
  obtain ⟨ces, c1, c2⟩ := map_block H hgm hpm
  split at e <;> try (cases e; done)
  rename_i hcl
  have hcl' := Nat.eq_of_beq_eq_true hcl
  split at e <;> try (cases e; done)
  rename_i en hen
  cases e
  obtain ⟨ce, k1, k2, k3⟩ := findBorn_sound stamp es ces.toList en c2 hen
  have k1' : ces.find? (·.born == stamp) = some ce := by rw [← Array.find?_toList]; exact k1
  refine ⟨.tuple #[ce.key, ce.val], ?_, .tupL (.cons k2 (.cons k3 (.nil ρ)))⟩
  have hne : (clock != stepped) = false := by simp [hcl']
  simp only [Instr.entry, Nat.zero_add, Nat.add_zero, Sem.run_bind, run_getObj_of b1 rfl, run_getObj_of c1 rfl, lastN_spec hlast, Result.andThen_ok, hne, Bool.false_eq_true, if_false, k1', Sem.run_pure]

end Go.Ab
