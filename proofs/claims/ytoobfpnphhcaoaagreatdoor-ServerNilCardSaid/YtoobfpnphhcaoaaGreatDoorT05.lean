import Derived.Test.YtoobfpnphhcaoaaGreatDoorT02
import Derived.Laws.Entries
import Derived.Laws.Cells
import Derived.Laws.AppendOwn
import Derived.Laws.Strings
import Derived.Laws.StructEq
import Derived.Laws.Shifts
import Derived.Laws.Unary
import Derived.Laws.IdiomStrings
import Derived.ChangeKeysEq
import Derived.Laws.Cover3
set_option linter.unusedVariables false
set_option linter.unusedSimpArgs false
namespace Go.Ab
open Go.RowKit

variable {P : Program} {n0 : Nat} {w0 : World} {ρ : Pl} {h : AH} {w : World}

/-! ### types -/

theorem run_typeInfo_of {t : Nat} {i : TypeInfo} (e : P.info? t = some i) : (typeInfo t).run P w = .ok i w := by simp [typeInfo, e]

theorem sizeT_run {t n : Nat} (e : sizeT P t = some n) : (sizeOf t).run P w = .ok n w := by
  unfold sizeT at e
  split at e
  · rename_i i hi; cases e; simp [sizeOf, run_typeInfo_of hi]
  · cases e

theorem sizeT_info {t : Nat} {i : TypeInfo} (e : P.info? t = some i) : sizeT P t = some i.size := by simp [sizeT, e]

theorem isAggT_run {t : Nat} {b : Bool} (e : isAggT P t = some b) : (isAgg t).run P w = .ok b w := by
  unfold isAggT at e
  split at e <;> rename_i hd <;> first | cases e | skip
  · simp [isAgg, run_underlying hd]
  · simp [isAgg, run_underlying hd]
  · rename_i d h1 h2
    rw [isAgg, Sem.run_bind, run_underlying hd]
    simp only [Result.andThen_ok]
    cases d <;> first | rfl | exact (h1 _ rfl).elim | exact (h2 _ _ rfl).elim

/-! ### constants -/

theorem ofV_sound : ∀ (n : Nat) (v : Value), VR ρ (ofV n v) v
  | 0, v => .top v
  | n + 1, v => by
    have key : ∀ (cs : Array Value), VRs ρ (cs.toList.map (ofV n)) cs.toList := fun cs =>
      ⟨by simp, fun i a u ha hu => by
        simp only [List.getElem?_map, hu, Option.map_some, Option.some.injEq] at ha
        subst ha; exact ofV_sound n u⟩
    unfold ofV
    split <;> first | exact .top _ | exact .bool _ | exact .int _ _ | exact .str rfl | exact .nilptr | exact .nilslice | exact .nilmap | exact .nilfn | exact .nilif | exact .aggA (key _) | exact .tupA (key _)

theorem constOf_sound (v : Value) : VR ρ (constOf v) v := ofV_sound 4 v

theorem cellsOf_sound {a : AV} {v : Value} {l : List AV} (r : VR ρ a v) (e : a.cellsOf = some l) : VRs ρ l v.cells.toList := by
  have one : ∀ (x : AV) (v : Value), VR ρ x v → VRs ρ [x] [v] := fun x v hx => .cons hx (.nil ρ)
  cases r <;> simp only [AV.cellsOf, Option.some.injEq] at e <;> first | cases e | skip
  case agg hl hr => exact .ofArr hl hr
  all_goals (simp only [Value.cells]; refine one _ _ ?_; constructor <;> assumption)

theorem zeroT_info {t : Nat} {l : List AV} (e : zeroT P t = some l) : ∃ i z, P.info? t = some i ∧ i.zero = some z ∧ VRs ρ l z.cells.toList := by
  unfold zeroT at e
  split at e
  · rename_i i hi
    split at e
    · rename_i z hz; exact ⟨i, z, hi, hz, cellsOf_sound (constOf_sound z) e⟩
    · cases e
  · cases e

theorem zeroV_info {t : Nat} {a : AV} (e : zeroV P t = some a) : ∃ i z, P.info? t = some i ∧ i.zero = some z ∧ VR ρ a z := by
  unfold zeroV at e
  split at e
  · rename_i i hi
    split at e
    · rename_i z hz; cases e; exact ⟨i, z, hi, hz, constOf_sound z⟩
    · cases e
  · cases e

theorem run_zeroValue_of {t : Nat} {i : TypeInfo} {z : Value} (hi : P.info? t = some i) (hz : i.zero = some z) : (zeroValue t).run P w = .ok z w := by
  simp [zeroValue, run_typeInfo_of hi, hz]

/-! ### lists of cells -/

theorem takeN_spec : ∀ {n : Nat} {vs l : List AV}, takeN n vs = some l → l.length = n ∧ ∀ j, j < n → l[j]? = vs[j]?
  | 0, vs, l, e => by simp [takeN] at e; subst e; simp
  | n + 1, [], l, e => by simp [takeN] at e
  | n + 1, v :: vs, l, e => by
    simp only [takeN] at e
    split at e
    · rename_i r hr
      cases e
      obtain ⟨h1, h2⟩ := takeN_spec hr
      refine ⟨by simp [h1], fun j hj => ?_⟩
      cases j with
      | zero => simp
      | succ j => simpa using h2 j (by omega)
    · cases e

theorem dropN_eq : ∀ (n : Nat) (vs : List AV), dropN n vs = vs.drop n
  | 0, vs => rfl
  | n + 1, [] => rfl
  | n + 1, v :: vs => by simp [dropN, dropN_eq n vs]

theorem getN_spec {vs l : List AV} {o n : Nat} (e : getN vs o n = some l) : l.length = n ∧ ∀ j, j < n → l[j]? = vs[o + j]? := by
  obtain ⟨h1, h2⟩ := takeN_spec e
  refine ⟨h1, fun j hj => ?_⟩
  rw [h2 j hj, dropN_eq, List.getElem?_drop]

theorem over_spec : ∀ {cs vs r : List AV}, over cs vs = some r → r.length = vs.length ∧ cs.length ≤ vs.length ∧ ∀ j, r[j]? = if j < cs.length then cs[j]? else vs[j]?
  | [], vs, r, e => by simp [over] at e; subst e; simp
  | c :: cs, [], r, e => by simp [over] at e
  | c :: cs, v :: vs, r, e => by
    simp only [over] at e
    split at e
    · rename_i r' hr
      cases e
      obtain ⟨h1, h2, h3⟩ := over_spec hr
      refine ⟨by simp [h1], by simp; exact h2, fun j => ?_⟩
      cases j with
      | zero => simp
      | succ j => simpa using h3 j
    · cases e

theorem splice_spec : ∀ {o : Nat} {cs vs r : List AV}, splice o cs vs = some r →
    r.length = vs.length ∧ o + cs.length ≤ vs.length ∧ ∀ j, r[j]? = if o ≤ j ∧ j < o + cs.length then cs[j - o]? else vs[j]?
  | 0, cs, vs, r, e => by
    obtain ⟨h1, h2, h3⟩ := over_spec e
    exact ⟨h1, by omega, fun j => by simpa using h3 j⟩
  | o + 1, cs, [], r, e => by simp [splice] at e
  | o + 1, cs, v :: vs, r, e => by
    simp only [splice] at e
    split at e
    · rename_i r' hr
      cases e
      obtain ⟨h1, h2, h3⟩ := splice_spec hr
      refine ⟨by simp [h1], by simp; omega, fun j => ?_⟩
      cases j with
      | zero => simp
      | succ j =>
        have := h3 j
        simp only [List.getElem?_cons_succ, this]
        have e1 : (o ≤ j ∧ j < o + cs.length) ↔ (o + 1 ≤ j + 1 ∧ j + 1 < o + 1 + cs.length) := by omega
        simp only [e1, Nat.reduceSubDiff]
    · cases e

/-! ### reading -/

theorem cell_of_block {a : Addr} {cs : Array Value} {e : TypeId} {fr : Nat × Nat} (h : w.heap[a.block]? = some (.cells cs e fr)) (hs : a.spot = none) : w.cell? a = cs[a.off]? := by
  simp [World.cell?, h, hs]

theorem add_eq (b o j : Nat) : (⟨b, o, none⟩ : Addr).add j = ⟨b, o + j, none⟩ := by
  unfold Addr.add; split <;> simp_all

theorem load_cells {b : Id} {o n : Nat} {l : List AV} {pl : Place} (H : HR n0 w0 ρ h w) (e : h.load b o n = some l) (hp : ρ b = some pl) :
    ∃ vs : List Value, vs.length = n ∧ VRs ρ l vs ∧ ∀ j v, vs[j]? = some v → w.cell? ((⟨pl.blk, pl.sh + o, none⟩ : Addr).add j) = some v := by
  unfold AH.load at e
  split at e
  · rename_i own vs hb
    obtain ⟨⟨cs, el, fr, h1, h2, h3, h4, _⟩, _⟩ := H.at hb hp
    obtain ⟨g1, g2⟩ := getN_spec e
    have cell : ∀ j, j < n → ∃ v, cs[pl.sh + o + j]? = some v ∧ ∀ a, l[j]? = some a → VR ρ a v := fun j hj => by
      have hl : l[j]? = some l[j] := List.getElem?_eq_getElem (by omega)
      have := g2 j hj
      rw [hl] at this
      obtain ⟨v, hv, hr⟩ := h4 (o + j) l[j] this.symm
      refine ⟨v, by rw [Nat.add_assoc]; exact hv, fun a ha => ?_⟩
      rw [hl] at ha; cases ha; exact hr
    refine ⟨(List.range n).map fun j => cs.getD (pl.sh + o + j) undef, by simp, ⟨by simp [g1], fun j a v ha hv => ?_⟩, fun j v hv => ?_⟩
    · simp only [List.getElem?_map, Option.map_eq_some_iff] at hv
      obtain ⟨k, hk, rfl⟩ := hv
      obtain ⟨hlt, rfl⟩ := List.getElem?_eq_some_iff.1 hk
      simp only [List.length_range] at hlt
      simp only [List.getElem_range]
      obtain ⟨v, hv, hr⟩ := cell j hlt
      have : cs.getD (pl.sh + o + j) undef = v := by simp [Array.getD_eq_getD_getElem?, hv]
      rw [this]; exact hr a ha
    · simp only [List.getElem?_map, Option.map_eq_some_iff] at hv
      obtain ⟨k, hk, rfl⟩ := hv
      obtain ⟨hlt, rfl⟩ := List.getElem?_eq_some_iff.1 hk
      simp only [List.length_range] at hlt
      simp only [List.getElem_range]
      obtain ⟨v, hv, hr⟩ := cell j hlt
      have e1 : cs.getD (pl.sh + o + j) undef = v := by simp [Array.getD_eq_getD_getElem?, hv]
      rw [e1, add_eq, cell_of_block (a := ⟨pl.blk, pl.sh + o + j, none⟩) h1 rfl]
      exact hv
  · cases e

theorem run_loadCells_vs {a : Addr} {vs : List Value} {n : Nat} (hl : vs.length = n) (hc : ∀ j v, vs[j]? = some v → w.cell? (a.add j) = some v) :
    (loadCells a n).run P w = .ok vs.toArray w := by
  subst hl; exact run_loadCells_list w a vs hc

theorem loadV_run {t : Nat} {b : Id} {o : Nat} {a : AV} {pl : Place} (H : HR n0 w0 ρ h w) (e : loadV P t h b o = some a) (hp : ρ b = some pl) :
    ∃ v, (loadVar t ⟨pl.blk, pl.sh + o, none⟩).run P w = .ok v w ∧ VR ρ a v := by
  unfold loadV at e
  split at e
  · rename_i ht
    split at e
    · rename_i n hn
      split at e
      · rename_i l hl
        cases e
        obtain ⟨vs, h1, h2, h3⟩ := load_cells H hl hp
        refine ⟨.agg vs.toArray, ?_, .aggL h2⟩
        simp [loadVar, isAggT_run ht, sizeT_run hn, run_loadCells_vs h1 h3]
      · cases e
    · cases e
  · rename_i ht
    split at e
    · rename_i v l hl
      cases e
      obtain ⟨vs, h1, h2, h3⟩ := load_cells H hl hp
      obtain ⟨x, ws, rfl, hx, _⟩ := h2.uncons
      refine ⟨x, ?_, hx⟩
      have hc := h3 0 x rfl
      simp only [Addr.add, if_true] at hc
      simp [loadVar, isAggT_run ht, hc]
    · cases e
  · cases e

end Go.Ab

namespace Go.Ab
open Go.RowKit

variable {P : Program} {n0 : Nat} {w0 : World} {ρ : Pl} {h : AH} {w : World}

/-! ### writing -/

theorem isCell_one {a : AV} {v : Value} (r : VR ρ a v) (e : a.isCell = true) : v.oneCell' = true := by
  cases r <;> first | rfl | (simp [AV.isCell] at e)

/-- The world with another block in place of one that is there. -/
def _root_.Go.World.setBlock (w : World) (k : Nat) (o : Obj) : World := { w with heap := w.heap.setIfInBounds k o }

theorem setBlock_same {k : Nat} {o : Obj} (hk : k < w.heap.size) : (w.setBlock k o).heap[k]? = some o := by
  simp [World.setBlock, hk]
theorem setBlock_other {k j : Nat} {o : Obj} (hk : j ≠ k) : (w.setBlock k o).heap[j]? = w.heap[j]? := by
  simp [World.setBlock, Array.getElem?_setIfInBounds_ne (Ne.symm hk)]
theorem setBlock_size {k : Nat} {o : Obj} : (w.setBlock k o).heap.size = w.heap.size := by simp [World.setBlock]

theorem setCell_eq {k o : Nat} {v : Value} {cs : Array Value} {e : TypeId} {fr : Nat × Nat} (hb : w.heap[k]? = some (.cells cs e fr)) :
    w.setCell ⟨k, o, none⟩ v = w.setBlock k (.cells (cs.setIfInBounds o v) e fr) := by
  have hk : k < w.heap.size := (Array.getElem?_eq_some_iff.1 hb).1
  unfold World.setCell World.setBlock
  congr 1
  apply Array.ext_getElem?
  intro i
  rw [Array.getElem?_modify, Array.getElem?_setIfInBounds]
  by_cases hi : k = i
  · subst hi
    have hb' : w.heap[k] = .cells cs e fr := by simpa [hk] using hb
    simp [hb', hk]
  · simp [hi]

theorem storeCells_run : ∀ (l : List Value) (k o i : Nat) (w : World) (cs : Array Value) (e : TypeId) (fr : Nat × Nat),
    w.heap[k]? = some (.cells cs e fr) → o + i + l.length ≤ cs.size → (∀ j, o + i ≤ j → j < o + i + l.length → ¬ (fr.1 ≤ j ∧ j < fr.2)) → (∀ v ∈ l, v.oneCell' = true) →
    ∃ cs', (storeCells ⟨k, o, none⟩ l i).run P w = .ok () (w.setBlock k (.cells cs' e fr)) ∧ cs'.size = cs.size ∧
      ∀ j, cs'[j]? = if o + i ≤ j ∧ j < o + i + l.length then l[j - (o + i)]? else cs[j]?
  | [], k, o, i, w, cs, e, fr, hb, hl, hf, hv => by
    refine ⟨cs, ?_, rfl, fun j => by simp; omega⟩
    have hk : k < w.heap.size := (Array.getElem?_eq_some_iff.1 hb).1
    have : w.setBlock k (.cells cs e fr) = w := by
      unfold World.setBlock
      have : w.heap.setIfInBounds k (.cells cs e fr) = w.heap := by
        apply Array.ext_getElem?
        intro j
        rw [Array.getElem?_setIfInBounds]
        split
        · rename_i h; subst h
          have hb' : w.heap[k] = .cells cs e fr := by simpa [hk] using hb
          simp [hk, hb']
        · rfl
      rw [this]
    rw [this]; rfl
  | v :: l, k, o, i, w, cs, e, fr, hb, hl, hf, hv => by
    have hk : k < w.heap.size := (Array.getElem?_eq_some_iff.1 hb).1
    simp only [List.length_cons] at hl hf
    have hc : w.cell? ⟨k, o + i, none⟩ = some cs[o + i] := by
      rw [cell_of_block (a := ⟨k, o + i, none⟩) hb rfl]; simp [show o + i < cs.size by omega]
    have hz : w.frozen? ⟨k, o + i, none⟩ = false := by
      have := hf (o + i) (Nat.le_refl _) (by omega)
      simp only [World.frozen?, hb, Bool.and_eq_false_iff, decide_eq_false_iff_not]
      omega
    have hw := setCell_eq (v := v) (o := o + i) hb
    obtain ⟨cs', h1, h2, h3⟩ := storeCells_run l k o (i + 1) (w.setBlock k (.cells (cs.setIfInBounds (o + i) v) e fr)) (cs.setIfInBounds (o + i) v) e fr (setBlock_same hk)
      (by simp; omega) (fun j a b => hf j (by omega) (by omega)) (fun u hu => hv u (by simp [hu]))
    refine ⟨cs', ?_, by simpa using h2, fun j => ?_⟩
    · simp only [storeCells, Sem.run_bind, add_eq, run_store P w _ v .plain (hv v (by simp)), hc, hz, hw, Bool.false_eq_true, if_false, Result.andThen_ok]
      rw [h1]
      simp [World.setBlock]
    · rw [h3 j, Array.getElem?_setIfInBounds]
      by_cases h4 : j = o + i
      · subst h4
        rw [if_neg (by omega), if_pos rfl, if_pos (by omega), if_pos (by simp)]
        simp
      · by_cases h5 : o + i ≤ j ∧ j < o + i + (l.length + 1)
        · rw [if_pos (by omega), if_pos (by simp; omega)]
          have : j - (o + i) = (j - (o + (i + 1))) + 1 := by omega
          rw [this, List.getElem?_cons_succ]
        · rw [if_neg (by omega), if_neg (fun h => h4 h.symm), if_neg (by simp only [List.length_cons]; omega)]

theorem allCells_mem : ∀ {l : List AV}, allCells l = true → ∀ a ∈ l, a.isCell = true
  | [], _, a, ha => by simp at ha
  | x :: l, e, a, ha => by
    simp only [allCells] at e
    split at e
    · rename_i hx
      rcases List.mem_cons.1 ha with rfl | h'
      · exact hx
      · exact allCells_mem e a h'
    · cases e

theorem oneCells {l : List AV} {vs : List Value} (r : VRs ρ l vs) (e : allCells l = true) : ∀ v ∈ vs, v.oneCell' = true := by
  intro v hv
  obtain ⟨i, hi⟩ := List.getElem?_of_mem hv
  have hlt : i < vs.length := (List.getElem?_eq_some_iff.1 hi).1
  have ha : l[i]? = some (l[i]'(r.1 ▸ hlt)) := List.getElem?_eq_getElem (r.1 ▸ hlt)
  exact isCell_one (r.2 i _ v ha hi) (allCells_mem e _ (List.getElem_mem _))

theorem below_setBlock {k : Nat} {o : Obj} (hk : n0 ≤ k) : Below n0 w (w.setBlock k o) :=
  ⟨rfl, rfl, rfl, by simp [setBlock_size], fun j hj => setBlock_other (by omega)⟩

/-- One block of the run's own is turned. -/
theorem HR.turn (H : HR n0 w0 ρ h w) {i : Id} {b b' : AB} {pl : Place} {o : Obj} (hb : h.get i = some b) (hp : ρ i = some pl) (ho : b.owned = true)
    (hB : BR ρ (w.setBlock pl.blk o) pl b') :
    HR n0 w0 ρ (h.set i (some b')) (w.setBlock pl.blk o) ∧ Goes ρ h w ρ (h.set i (some b')) (w.setBlock pl.blk o) := by
  have hn := (H.at hb hp).2 ho
  have hg : ∀ j bj, (h.set i (some b')).get j = some bj → (j = i ∧ bj = b') ∨ (j ≠ i ∧ h.get j = some bj) := fun j bj hj => by
    rw [AH.get_set] at hj
    split at hj
    · rename_i e; cases hj; exact .inl ⟨e, rfl⟩
    · rename_i e; exact .inr ⟨e, hj⟩
  refine ⟨H.put (.refl ρ) hp (fun j pj e => .inr e) hg (by rw [AH.next_set]; exact Nat.le_refl _) ?_ hB (fun _ => hn) (fun k hk _ => setBlock_other hk) ?_ (by rw [setBlock_size]; exact Nat.le_refl _)
    (below_setBlock hn), ⟨.refl ρ, by rw [setBlock_size]; exact Nat.le_refl _, by rw [AH.next_set]; exact Nat.le_refl _, fun cb _ hno => setBlock_other fun e => hno i b pl hb ho hp e.symm, ?_, fun _ _ h => .inl h⟩⟩
  · rw [AH.next_set]
    rcases Nat.lt_or_ge i.toNat h.next.toNat with h' | h'
    · exact h'
    · have := H.fresh i h'; rw [this] at hp; cases hp
  · intro j bj pj hji hj hpj e
    rcases hg j bj hj with ⟨rfl, _⟩ | ⟨_, hj'⟩
    · exact hji rfl
    · exact H.inj i j b bj pl pj hb hj' hp hpj (Ne.symm hji) ho e.symm
  · intro j bj hj
    rcases hg j bj hj with ⟨rfl, _⟩ | ⟨_, hj'⟩
    · exact .inr ⟨b, hb, fun _ => ho, fun _ h => h⟩
    · exact .inr ⟨bj, hj', id, fun _ h => h⟩

theorem store_run {b : Id} {o : Nat} {l : List AV} {vs : List Value} {h' : AH} {pl : Place} (H : HR n0 w0 ρ h w) (e : h.store b o l = some h') (hp : ρ b = some pl) (r : VRs ρ l vs) :
    ∃ w', (storeCells ⟨pl.blk, pl.sh + o, none⟩ vs).run P w = .ok () w' ∧ HR n0 w0 ρ h' w' ∧ Goes ρ h w ρ h' w' := by
  unfold AH.store at e
  split at e
  · rename_i cvs hb
    split at e
    · rename_i hall
      split at e
      · rename_i vs' hs
        cases e
        obtain ⟨cs, el, fr, h1, h2, h3, h4, h5⟩ := (H.at hb hp).1
        obtain ⟨g1, g2, g3⟩ := splice_spec hs
        have hl := r.1
        obtain ⟨cs', k1, k2, k3⟩ := storeCells_run (P := P) vs pl.blk (pl.sh + o) 0 w cs el fr h1 (by omega) (fun j a b => thawed (h5 rfl) j (by omega)) (oneCells r hall)
        have hk : pl.blk < w.heap.size := H.lt _ _ hp
        have T := H.turn (b' := .cells true vs') (o := .cells cs' el fr) hb hp rfl
          ⟨cs', el, fr, setBlock_same hk, by omega, by omega, fun i a ha => ?_, fun ho => by have := h5 ho; omega⟩
        · exact ⟨_, k1, T.1, T.2⟩
        · rw [g3 i] at ha
          rw [k3 (pl.sh + i)]
          split at ha
          · rename_i hi
            obtain ⟨v, hv, hr⟩ := r.get ha
            refine ⟨v, ?_, hr⟩
            rw [if_pos (by omega), ← hv]
            congr 1; omega
          · rename_i hi
            rw [if_neg (by omega)]
            exact h4 i a ha
      · cases e
    · cases e
  · cases e

theorem storeV_run {t : Nat} {b : Id} {o : Nat} {a : AV} {v : Value} {h' : AH} {pl : Place} (H : HR n0 w0 ρ h w) (e : storeV P t h b o a = some h') (hp : ρ b = some pl) (r : VR ρ a v) :
    ∃ w', (storeVar t ⟨pl.blk, pl.sh + o, none⟩ v).run P w = .ok () w' ∧ HR n0 w0 ρ h' w' ∧ Goes ρ h w ρ h' w' := by
  unfold storeV at e
  split at e
  · rename_i cs n hcs hn
    split at e
    · rename_i hlen
      have hs := cellsOf_sound r hcs
      obtain ⟨w', h1, h2, h3⟩ := store_run (P := P) H e hp hs
      refine ⟨w', ?_, h2, h3⟩
      have : v.cells.size = n := by
        have := hs.1
        have := Nat.eq_of_beq_eq_true hlen
        simp at *; omega
      simp [storeVar, sizeT_run hn, this, h1]
    · cases e
  · cases e

/-! ### new blocks -/

theorem alloc_new (w : World) (o : Obj) : (w.alloc o).heap[w.heap.size]? = some o := by
  show (w.heap.push o)[w.heap.size]? = some o
  simp


/-- New cells: more may stand behind those that are known. -/
theorem newCells_sound {cs : List AV} {mk : Id → AV} {v : AV} {h' : AH} (H : HR n0 w0 ρ h w) (e : newCells h cs mk = some (v, h')) {arr : Array Value} {vs : List Value}
    (r : VRs ρ cs vs) (hpre : ∀ j, j < vs.length → arr[j]? = vs[j]?) (hlen : vs.length ≤ arr.size) (el : TypeId) (fr : Nat × Nat) (hfr : fr.1 = fr.2 ∨ arr.size ≤ fr.1) :
    ∃ i, v = mk i ∧ ∃ ρ', ρ' i = some ⟨w.heap.size, 0, arr.size⟩ ∧ HR n0 w0 ρ' h' (w.alloc (.cells arr el fr)) ∧ Goes ρ h w ρ' h' (w.alloc (.cells arr el fr)) := by
  unfold newCells at e
  split at e
  · rename_i i h1 hn
    cases e
    have hfree : ρ i = none := by obtain ⟨rfl, _⟩ := AH.new_spec hn; exact H.fresh _ (Nat.le_refl _)
    have hx := Pl.with_ext (ρ := ρ) (i := i) ⟨w.heap.size, 0, arr.size⟩ hfree
    have hB : BR (ρ.with i ⟨w.heap.size, 0, arr.size⟩) (w.alloc (.cells arr el fr)) ⟨w.heap.size, 0, arr.size⟩ (.cells true cs) := by
      refine ⟨arr, el, fr, alloc_new w _, by simp, by simpa using r.1 ▸ hlen, fun j a ha => ?_, fun _ => hfr⟩
      obtain ⟨u, hu, hr⟩ := r.get ha
      have : j < vs.length := (List.getElem?_eq_some_iff.1 hu).1
      exact ⟨u, by simpa [hpre j this] using hu, hr.mono hx⟩
    obtain ⟨k1, k2, _⟩ := H.new hn ⟨w.heap.size, 0, arr.size⟩ rfl (o := .cells arr el fr) hB
    exact ⟨i, rfl, _, Pl.with_same ρ i _, k1, k2⟩
  · cases e

theorem new_sound {b : AB} {i : Id} {h' : AH} (H : HR n0 w0 ρ h w) (e : h.new b = some (i, h')) (o : Obj)
    (hB : ∀ ρ', Ext ρ ρ' → BR ρ' (w.alloc o) ⟨w.heap.size, 0, 0⟩ b) :
    ∃ ρ', ρ' i = some ⟨w.heap.size, 0, 0⟩ ∧ HR n0 w0 ρ' h' (w.alloc o) ∧ Goes ρ h w ρ' h' (w.alloc o) := by
  have hfree : ρ i = none := by obtain ⟨rfl, _⟩ := AH.new_spec e; exact H.fresh _ (Nat.le_refl _)
  obtain ⟨k1, k2, _⟩ := H.new e ⟨w.heap.size, 0, 0⟩ rfl (o := o) (hB _ (Pl.with_ext _ hfree))
  exact ⟨_, Pl.with_same ρ i _, k1, k2⟩

theorem Goes.drew {ρ' : Pl} {h' : AH} {w' : World} (H : Goes ρ h w ρ' h' w') : Goes ρ h w ρ' h' w'.drew := ⟨H.ext, H.size, H.next, H.frame, H.img, H.grows⟩

end Go.Ab

namespace Go.Ab
open Go.RowKit

variable {P : Program} {ρ : Pl}

/-- In whatever world: this value, and nothing else turns. -/
def Gives (P : Program) (ρ : Pl) (s : Sem Value) (a : AV) : Prop := ∃ x, (∀ w, s.run P w = .ok x w) ∧ VR ρ a x

theorem Gives.pure {x : Value} {a : AV} (r : VR ρ a x) : Gives P ρ (Pure.pure x) a := ⟨x, fun _ => rfl, r⟩

/-! ### numbers -/

theorem modulus_eq (k : IntKind) : modulus k = 2 ^ k.bits := by cases k <;> rfl
theorem modulus_int (k : IntKind) : (2 ^ k.bits : Int) = (modulus k : Int) := by cases k <;> decide

theorem resid_eq (k : IntKind) (z : Int) : (resid k z : Int) = z % (modulus k : Int) := by
  cases z with
  | ofNat n => simp [resid]
  | negSucc n => cases k <;> simp only [resid, modulus, Int.negSucc_eq] <;> omega

theorem resid_lt (k : IntKind) (z : Int) : resid k z < modulus k := by
  cases z with
  | ofNat n => cases k <;> simp only [resid, modulus] <;> omega
  | negSucc n => cases k <;> simp only [resid, modulus] <;> omega

theorem subNatNat_eq (a b : Nat) : Int.subNatNat a b = (a : Int) - b := by
  rw [Int.subNatNat_eq_coe]

theorem wrap_i8 (n : Int) : IntKind.i8.wrap n = if 128 ≤ n % 256 then n % 256 - 256 else n % 256 := by simp [IntKind.wrap, IntKind.bits, IntKind.signed]
theorem wrap_i16 (n : Int) : IntKind.i16.wrap n = if 32768 ≤ n % 65536 then n % 65536 - 65536 else n % 65536 := by simp [IntKind.wrap, IntKind.bits, IntKind.signed]
theorem wrap_i32 (n : Int) : IntKind.i32.wrap n = if 2147483648 ≤ n % 4294967296 then n % 4294967296 - 4294967296 else n % 4294967296 := by simp [IntKind.wrap, IntKind.bits, IntKind.signed]
theorem wrap_i64 (n : Int) : IntKind.i64.wrap n = if 9223372036854775808 ≤ n % 18446744073709551616 then n % 18446744073709551616 - 18446744073709551616 else n % 18446744073709551616 := by
  simp [IntKind.wrap, IntKind.bits, IntKind.signed]
theorem wrap_u8 (n : Int) : IntKind.u8.wrap n = n % 256 := by simp [IntKind.wrap, IntKind.bits, IntKind.signed]
theorem wrap_u16 (n : Int) : IntKind.u16.wrap n = n % 65536 := by simp [IntKind.wrap, IntKind.bits, IntKind.signed]
theorem wrap_u32 (n : Int) : IntKind.u32.wrap n = n % 4294967296 := by simp [IntKind.wrap, IntKind.bits, IntKind.signed]
theorem wrap_u64 (n : Int) : IntKind.u64.wrap n = n % 18446744073709551616 := by simp [IntKind.wrap, IntKind.bits, IntKind.signed]

theorem wrapN_aux (m half full : Nat) (h : m < full) :
    (match Nat.ble half m with | true => Int.subNatNat m full | false => Int.ofNat m) = if (half : Int) ≤ (m : Int) % (full : Int) then (m : Int) % (full : Int) - full else (m : Int) % (full : Int) := by
  have e : (m : Int) % (full : Int) = m := Int.emod_eq_of_lt (by omega) (by omega)
  rw [e]
  split
  · rename_i hb
    have := Nat.le_of_ble_eq_true hb
    rw [if_pos (by omega), subNatNat_eq]
  · rename_i hb
    have : ¬ half ≤ m := fun e => by rw [Nat.ble_eq_true_of_le e] at hb; cases hb
    rw [if_neg (by omega)]; rfl

theorem wrapN_eq (k : IntKind) (m : Nat) (h : m < modulus k) : wrapN k m = k.wrap m := by
  cases k <;> simp only [wrapN, modulus] at *
  · rw [wrap_i8]; exact wrapN_aux m 128 256 h
  · rw [wrap_i16]; exact wrapN_aux m 32768 65536 h
  · rw [wrap_i32]; exact wrapN_aux m 2147483648 4294967296 h
  · rw [wrap_i64]; exact wrapN_aux m 9223372036854775808 18446744073709551616 h
  · rw [wrap_u8, Int.ofNat_eq_natCast]; omega
  · rw [wrap_u16, Int.ofNat_eq_natCast]; omega
  · rw [wrap_u32, Int.ofNat_eq_natCast]; omega
  · rw [wrap_u64, Int.ofNat_eq_natCast]; omega

theorem wrap_mod (k : IntKind) (z : Int) : k.wrap (z % (modulus k : Int)) = k.wrap z := by
  unfold IntKind.wrap
  rw [modulus_int, Int.emod_emod]

theorem wrapI_eq (k : IntKind) (z : Int) : wrapI k z = k.wrap z := by
  unfold wrapI
  rw [wrapN_eq _ _ (resid_lt k z), resid_eq, wrap_mod]

theorem eqI_eq (a b : Int) : eqI a b = (a == b) := by
  cases a <;> cases b <;> simp only [eqI]
  · rename_i m n; rw [Bool.eq_iff_iff]; simp [Nat.beq_eq]; omega
  · rename_i m n; rw [Bool.eq_iff_iff]; simp
  · rename_i m n; rw [Bool.eq_iff_iff]; simp
  · rename_i m n; rw [Bool.eq_iff_iff]; simp [Nat.beq_eq]

theorem ltI_eq (a b : Int) : ltI a b = decide (a < b) := by
  cases a <;> cases b <;> simp only [ltI]
  · rename_i m n; rw [Bool.eq_iff_iff]; simp [Nat.blt_eq]
  · rename_i m n; rw [Bool.eq_iff_iff]; simp; omega
  · rename_i m n; rw [Bool.eq_iff_iff]; simp; omega
  · rename_i m n; rw [Bool.eq_iff_iff]; simp only [Nat.blt_eq, Int.negSucc_eq, decide_eq_true_eq]; omega

theorem eqK_eq {a b : IntKind} (h : eqK a b = true) : a = b := by cases a <;> cases b <;> first | rfl | cases h

theorem toNat_ofInt (k : IntKind) (z : Int) : (BitVec.ofInt k.bits z).toNat = resid k z := by
  rw [BitVec.toNat_ofInt]
  have : ((z % ((2 ^ k.bits : Nat) : Int)).toNat : Int) = resid k z := by
    rw [← modulus_eq, resid_eq]
    have : 0 ≤ z % (modulus k : Int) := Int.emod_nonneg _ (by cases k <;> decide)
    omega
  omega

theorem bits_lt {k : IntKind} (r : BitVec k.bits) : r.toNat < modulus k := by rw [modulus_eq]; exact r.isLt

theorem intBin_sound {op : BinOp} {k : IntKind} {a b : Int} {r : AV} (t : Nat) (h1 : op ≠ .shl) (h2 : op ≠ .shr) (e : intBin op k a b = some r) :
    Gives P ρ (binOp op t (.int k a) (.int k b)) r := by
  cases op <;> simp only [intBin] at e <;> first | contradiction | skip
  case add => cases e; exact ⟨.int k (k.wrap (a + b)), fun w => by simp [binOp_add, Op.intArith], by rw [wrapI_eq]; exact .int _ _⟩
  case sub => cases e; exact ⟨.int k (k.wrap (a - b)), fun w => by simp [binOp_sub, Op.intArith], by rw [wrapI_eq]; exact .int _ _⟩
  case mul => cases e; exact ⟨.int k (k.wrap (a * b)), fun w => by simp [binOp_mul, Op.intArith], by rw [wrapI_eq]; exact .int _ _⟩
  case quo =>
    rw [eqI_eq] at e
    split at e
    · cases e
    · rename_i hb
      cases e
      have hb' : b ≠ 0 := by simpa using hb
      exact ⟨.int k (k.wrap (a.tdiv b)), fun w => by simp [binOp_quo, Op.intDiv, hb'], by rw [wrapI_eq]; exact .int _ _⟩
  case rem =>
    rw [eqI_eq] at e
    split at e
    · cases e
    · rename_i hb
      cases e
      have hb' : b ≠ 0 := by simpa using hb
      exact ⟨.int k (a.tmod b), fun w => by simp [binOp_rem, Op.intDiv, hb'], .int _ _⟩
  case and =>
    cases e
    have : wrapN k (Nat.land (resid k a) (resid k b)) = k.wrap ((BitVec.ofInt k.bits a &&& BitVec.ofInt k.bits b).toNat : Int) := by
      rw [← wrapN_eq _ _ (bits_lt _), BitVec.toNat_and, toNat_ofInt, toNat_ofInt]; rfl
    exact ⟨_, fun w => by rw [binOp_and]; rfl, by rw [this]; exact .int _ _⟩
  case or =>
    cases e
    have : wrapN k (Nat.lor (resid k a) (resid k b)) = k.wrap ((BitVec.ofInt k.bits a ||| BitVec.ofInt k.bits b).toNat : Int) := by
      rw [← wrapN_eq _ _ (bits_lt _), BitVec.toNat_or, toNat_ofInt, toNat_ofInt]; rfl
    exact ⟨_, fun w => by rw [binOp_or]; rfl, by rw [this]; exact .int _ _⟩
  case xor =>
    cases e
    have : wrapN k (Nat.xor (resid k a) (resid k b)) = k.wrap ((BitVec.ofInt k.bits a ^^^ BitVec.ofInt k.bits b).toNat : Int) := by
      rw [← wrapN_eq _ _ (bits_lt _), BitVec.toNat_xor, toNat_ofInt, toNat_ofInt]; rfl
    exact ⟨_, fun w => by rw [binOp_xor]; rfl, by rw [this]; exact .int _ _⟩
  case andNot =>
    cases e
    have : wrapN k (Nat.land (resid k a) (modulus k - 1 - resid k b)) = k.wrap ((BitVec.ofInt k.bits a &&& ~~~BitVec.ofInt k.bits b).toNat : Int) := by
      rw [← wrapN_eq _ _ (bits_lt _), BitVec.toNat_and, BitVec.toNat_not, toNat_ofInt, toNat_ofInt, modulus_eq]; rfl
    exact ⟨_, fun w => by rw [binOp_andNot]; rfl, by rw [this]; exact .int _ _⟩
  case eql => cases e; exact ⟨.bool (a == b), fun w => by simp [binOp_eql], by rw [eqI_eq]; exact .bool _⟩
  case neq => cases e; exact ⟨.bool (a != b), fun w => by simp [binOp_neq], by rw [eqI_eq]; exact .bool _⟩
  case lss => cases e; exact ⟨.bool (decide (a < b)), fun w => by simp [binOp_lss], by rw [ltI_eq]; exact .bool _⟩
  case leq =>
    cases e
    have : (!ltI b a) = decide (a ≤ b) := by rw [ltI_eq, Bool.eq_iff_iff]; simp
    exact ⟨.bool (decide (a ≤ b)), fun w => by simp [binOp_leq], by rw [this]; exact .bool _⟩
  case gtr => cases e; exact ⟨.bool (decide (b < a)), fun w => by simp [binOp_gtr], by rw [ltI_eq]; exact .bool _⟩
  case geq =>
    cases e
    have : (!ltI a b) = decide (b ≤ a) := by rw [ltI_eq, Bool.eq_iff_iff]; simp
    exact ⟨.bool (decide (b ≤ a)), fun w => by simp [binOp_geq], by rw [this]; exact .bool _⟩

theorem shiftBin_sound {op : BinOp} {k yk : IntKind} {a b : Int} {r : AV} (t : Nat) (h : op = .shl ∨ op = .shr) (e : shiftBin op k a b = some r) :
    Gives P ρ (binOp op t (.int k a) (.int yk b)) r := by
  cases b with
  | negSucc n => simp [shiftBin] at e
  | ofNat n =>
    have hc : ∀ m : Nat, (Int.ofNat (2 ^ m)) = (2 : Int) ^ m := fun m => by simp
    rcases h with rfl | rfl
    · simp only [shiftBin, Option.some.injEq] at e
      subst e
      refine ⟨.int k (k.wrap (a * 2 ^ min n k.bits)), fun w => ?_, ?_⟩
      · rw [binOp_shl, shift_shl_any _ _ _ _ (by simp)]; rfl
      · rw [wrapI_eq, hc]; exact .int _ _
    · simp only [shiftBin, Option.some.injEq] at e
      subst e
      refine ⟨.int k (a.fdiv (2 ^ min n k.bits)), fun w => ?_, ?_⟩
      · have hn : ¬ ((Int.ofNat n) < 0) := by simp
        simp only [binOp_shr, Op.shift, hn, if_false]
        rfl
      · rw [hc]; exact .int _ _

/-! ### texts -/

theorem toNat_inj8 {a b : UInt8} : (a.toNat = b.toNat) ↔ a = b := UInt8.toNat_inj

theorem eqL_eq : ∀ (x y : List UInt8), eqL (x.map UInt8.toNat) (y.map UInt8.toNat) = (x == y)
  | [], [] => rfl
  | [], _ :: _ => rfl
  | _ :: _, [] => rfl
  | a :: x, b :: y => by
    simp only [List.map_cons, eqL]
    rw [eqL_eq x y]
    by_cases h : a = b
    · subst h; simp
    · have : Nat.beq a.toNat b.toNat = false := by
        rw [← Bool.not_eq_true, Nat.beq_eq]
        exact fun e => h (toNat_inj8.1 e)
      rw [this]
      have h2 : (a == b) = false := by simpa using h
      simp [h2]

theorem ltL_eq : ∀ (x y : List UInt8), ltL (x.map UInt8.toNat) (y.map UInt8.toNat) = Op.bytesLess x y
  | [], [] => rfl
  | [], _ :: _ => rfl
  | _ :: _, [] => rfl
  | a :: x, b :: y => by
    simp only [List.map_cons, ltL, Op.bytesLess]
    rw [ltL_eq x y]
    have e1 : Nat.blt a.toNat b.toNat = decide (a < b) := by
      rw [Bool.eq_iff_iff]; simp [Nat.blt_eq, UInt8.lt_iff_toNat_lt]
    have e2 : Nat.beq a.toNat b.toNat = (a == b) := by
      rw [Bool.eq_iff_iff, Nat.beq_eq]; simp [toNat_inj8]
    rw [e1, e2]
    cases decide (a < b) <;> cases (a == b) <;> simp

theorem bytesOfArr_append (a b : ByteArray) : bytesOfArr (a ++ b) = bytesOfArr a ++ bytesOfArr b := by
  simp [bytesOfArr]

theorem bytesOfArr_length (a : ByteArray) : (bytesOfArr a).length = a.size := by
  simp only [bytesOfArr, List.length_map, Array.length_toList]; rfl

theorem strBin_sound {op : BinOp} {a b : ByteArray} {r : AV} (t : Nat) (e : strBin op (bytesOfArr a) (bytesOfArr b) = some r) : Gives P ρ (binOp op t (.string a) (.string b)) r := by
  have he : eqL (bytesOfArr a) (bytesOfArr b) = (a.toList == b.toList) := by rw [ByteArray.toList_eq, ByteArray.toList_eq]; exact eqL_eq _ _
  have hl : ltL (bytesOfArr a) (bytesOfArr b) = Op.bytesLess a.toList b.toList := by rw [ByteArray.toList_eq, ByteArray.toList_eq]; exact ltL_eq _ _
  cases op <;> simp only [strBin, he, hl] at e <;> first | contradiction | skip
  case add =>
    split at e
    · rename_i hb
      cases e
      have hb' : (a.size + b.size) < 140737488355328 := by
        rw [Nat.blt_eq, bytesOfArr_length, bytesOfArr_length] at hb
        exact hb
      have : ¬ (((a.size + b.size : Nat) : Int) > IntKind.i64.max) := by rw [IntKind.max_i64]; omega
      refine ⟨.string (a ++ b), fun w => ?_, .str (bytesOfArr_append a b)⟩
      simp only [binOp, Op.stringOp, this, if_false]
      rfl
    · cases e
  case eql => cases e; exact ⟨.bool (a.toList == b.toList), fun w => by simp [binOp, Op.stringOp], .bool _⟩
  case neq => cases e; exact ⟨.bool (!(a.toList == b.toList)), fun w => by simp [binOp, Op.stringOp], .bool _⟩
  case lss => cases e; exact ⟨.bool (Op.bytesLess a.toList b.toList), fun w => by simp [binOp, Op.stringOp], .bool _⟩
  case leq => cases e; exact ⟨.bool (Op.bytesLess a.toList b.toList || a.toList == b.toList), fun w => by simp [binOp, Op.stringOp], .bool _⟩
  case gtr => cases e; exact ⟨.bool (!(Op.bytesLess a.toList b.toList || a.toList == b.toList)), fun w => by simp [binOp, Op.stringOp], .bool _⟩
  case geq => cases e; exact ⟨.bool (!Op.bytesLess a.toList b.toList), fun w => by simp [binOp, Op.stringOp], .bool _⟩

end Go.Ab

namespace Go.Ab
open Go.RowKit

variable {P : Program} {ρ : Pl}

/-! ### equality -/

theorem underlying_info {t : Nat} {d : TypeDesc} (h : P.underlying t = some d) : ∃ i, P.info? t = some i := info_of_underlying h

theorem partV_sound {t off : Nat} {cs : List AV} {xs : Array Value} {a : AV} (r : VRs ρ cs xs.toList) (e : partV P t cs off = some a) : Gives P ρ (part t xs off) a := by
  have sub : ∀ n, VRs ρ ((cs.drop off).take n) ((xs.extract off (off + n)).toList) := fun n => by
    refine ⟨?_, fun i b v hb hv => ?_⟩
    · have := r.1
      simp at this ⊢; omega
    · have h1 : xs.toList[off + i]? = some v := by
        simp only [Array.toList_extract, List.extract_eq_take_drop, List.getElem?_take, List.getElem?_drop] at hv
        split at hv
        · exact hv
        · cases hv
      have h2 : cs[off + i]? = some b := by
        simp only [List.getElem?_take, List.getElem?_drop] at hb
        split at hb
        · exact hb
        · cases hb
      exact r.2 _ _ _ h2 h1
  unfold partV at e
  split at e
  · rename_i i fs hi hu
    cases e
    refine ⟨.agg (xs.extract off (off + i.size)), fun w => ?_, .aggA (sub _)⟩
    simp [part, isAgg, run_underlying hu, sizeOf, run_typeInfo_of hi]
  · rename_i i n el hi hu
    cases e
    refine ⟨.agg (xs.extract off (off + i.size)), fun w => ?_, .aggA (sub _)⟩
    simp [part, isAgg, run_underlying hu, sizeOf, run_typeInfo_of hi]
  · rename_i i d h1 h2 hi hu
    have e' : cs[off]? = some a := by rw [← e, List.head?_eq_getElem?, List.getElem?_drop]; simp
    obtain ⟨v, hv, hr⟩ := r.get e'
    refine ⟨v, fun w => ?_, hr⟩
    have hag : (isAgg t).run P w = .ok false w := by
      refine isAggT_run ?_
      simp only [isAggT, hu]
    have hv' : xs[off]? = some v := by simpa using hv
    simp only [part, Sem.run_bind, hag, Result.andThen_ok, Bool.false_eq_true, if_false, hv']
    rfl
  · cases e

/-- At every depth from d on the two are equal, or not. -/
def Eqs (P : Program) (d t : Nat) (x y : Value) (r : Bool) : Prop := ∀ D, d ≤ D → ∀ w, (Op.equalIn D t x y).run P w = .ok r w

theorem eqFields_sound {eq : Nat → AV → AV → Option Bool} {d : Nat} (heq : ∀ t a b x y r, VR ρ a x → VR ρ b y → eq t a b = some r → Eqs P d t x y r) :
    ∀ (fs : List Field) (as bs : List AV) (xs ys : Array Value) (r : Bool), VRs ρ as xs.toList → VRs ρ bs ys.toList → eqFields P eq fs as bs = some r →
      ∀ D, d ≤ D → ∀ w, (Op.eqFields D xs ys fs).run P w = .ok r w
  | [], as, bs, xs, ys, r, ha, hb, e, D, hD, w => by
    simp only [eqFields, Option.some.injEq] at e
    subst e; simp [Op.eqFields]
  | f :: fs, as, bs, xs, ys, r, ha, hb, e, D, hD, w => by
    simp only [eqFields] at e
    split at e
    · rename_i hn
      split at e
      · rename_i a b h1 h2
        obtain ⟨x, hx, rx⟩ := partV_sound ha h1
        obtain ⟨y, hy, ry⟩ := partV_sound hb h2
        simp only [Op.eqFields, if_pos hn, Sem.run_bind, hx, hy, Result.andThen_ok]
        cases h3 : eq f.type a b with
        | none => rw [h3] at e; simp [andO] at e
        | some q =>
          rw [h3] at e
          have hq := heq f.type a b x y q rx ry h3 D hD w
          rw [hq]
          cases q with
          | false => simp only [andO, Option.some.injEq] at e; subst e; simp
          | true => simp only [andO] at e; simpa using eqFields_sound heq fs as bs xs ys r ha hb e D hD w
      · cases e
    · rename_i hn
      simp only [Op.eqFields, if_neg hn]
      exact eqFields_sound heq fs as bs xs ys r ha hb e D hD w

/-- The loop over an array's elements. -/
def elemsFrom (d elem n : Nat) (xs ys : Array Value) : Nat → Nat → Sem Bool
  | 0, _ => pure true
  | r + 1, i => do if !(← Op.equalIn d elem (← part elem xs (i * n)) (← part elem ys (i * n))) then return false else elemsFrom d elem n xs ys r (i + 1)

theorem eqElems_sound {eq : Nat → AV → AV → Option Bool} {d elem n : Nat} (heq : ∀ t a b x y r, VR ρ a x → VR ρ b y → eq t a b = some r → Eqs P d t x y r) :
    ∀ (m i : Nat) (as bs : List AV) (xs ys : Array Value) (r : Bool), VRs ρ as xs.toList → VRs ρ bs ys.toList → eqElems P eq elem n m i as bs = some r →
      ∀ D, d ≤ D → ∀ w, (elemsFrom D elem n xs ys m i).run P w = .ok r w
  | 0, i, as, bs, xs, ys, r, ha, hb, e, D, hD, w => by
    simp only [eqElems, Option.some.injEq] at e
    subst e; simp [elemsFrom]
  | m + 1, i, as, bs, xs, ys, r, ha, hb, e, D, hD, w => by
    simp only [eqElems] at e
    split at e
    · rename_i a b h1 h2
      obtain ⟨x, hx, rx⟩ := partV_sound ha h1
      obtain ⟨y, hy, ry⟩ := partV_sound hb h2
      simp only [elemsFrom, Sem.run_bind, hx, hy, Result.andThen_ok]
      cases h3 : eq elem a b with
      | none => rw [h3] at e; simp [andO] at e
      | some q =>
        rw [h3] at e
        have hq := heq elem a b x y q rx ry h3 D hD w
        rw [hq]
        cases q with
        | false => simp only [andO, Option.some.injEq] at e; subst e; simp
        | true => simp only [andO] at e; simpa using eqElems_sound heq m (i + 1) as bs xs ys r ha hb e D hD w
    · cases e

theorem run_equalIn_array (w : World) (d t len elem n : Nat) (xs ys : Array Value) (ht : P.underlying t = some (.array len elem)) (hn : sizeT P elem = some n) :
    (Op.equalIn (d + 1) t (.agg xs) (.agg ys)).run P w = (elemsFrom d elem n xs ys len 0).run P w := by
  simp only [Op.equalIn, Sem.run_bind, run_underlying ht, Result.andThen_ok, sizeT_run hn]
  rw [Std.Legacy.Range.forIn_eq_forIn_range']
  simp only [Std.Legacy.Range.size, Nat.sub_zero, Nat.add_sub_cancel, Nat.div_one]
  clear ht
  generalize 0 = i
  induction len generalizing i w with
  | zero => simp [elemsFrom]
  | succ m ih =>
    simp only [List.range'_succ, List.forIn_cons, elemsFrom, Sem.run_bind]
    generalize (part elem xs (i * n)).run P w = r1
    cases r1 with
    | halt x w1 => simp [Result.andThen]
    | ok a w1 =>
      simp only [Result.andThen_ok]
      generalize (part elem ys (i * n)).run P w1 = r2
      cases r2 with
      | halt x w2 => simp [Result.andThen]
      | ok b w2 =>
        simp only [Result.andThen_ok]
        generalize (Op.equalIn d elem a b).run P w2 = r3
        cases r3 with
        | halt x w3 => simp [Result.andThen]
        | ok r w3 =>
          cases r
          · simp
          · simp only [Result.andThen_ok, Bool.not_true, Bool.false_eq_true, if_false, Sem.run_pure]
            exact ih w3 (i + 1)

theorem eqV_sound : ∀ (d t : Nat) (a b : AV) (x y : Value) (r : Bool), VR ρ a x → VR ρ b y → eqV P d t a b = some r → Eqs P d t x y r
  | 0, t, a, b, x, y, r, _, _, e => by simp [eqV] at e
  | d + 1, t, a, b, x, y, r, ra, rb, e => by
    intro D hD w
    obtain ⟨D, rfl⟩ : ∃ m, D = m + 1 := ⟨D - 1, by omega⟩
    have hD' : d ≤ D := by omega
    unfold eqV at e
    split at e <;> first | (cases e; done) | skip
    case h_1 hu =>
      cases ra; cases rb
      simp only [Option.some.injEq] at e
      rename_i p q
      rw [run_equalIn_bool w D t p q hu]
      subst e; cases p <;> cases q <;> rfl
    case h_2 hu =>
      cases ra; cases rb
      split at e
      · rename_i hk
        have := eqK_eq hk
        subst this
        cases e
        rw [run_equalIn_int w D t _ _ _ _ hu, eqI_eq]
      · cases e
    case h_3 hu =>
      cases ra; cases rb
      rename_i s1 h1 s2 h2
      simp only [Option.some.injEq] at e
      subst e h1 h2
      rw [run_equalIn_string w D t _ _ hu, ByteArray.toList_eq, ByteArray.toList_eq]
      congr 1; exact (eqL_eq _ _).symm
    case h_4 hu => cases e; cases ra; cases rb; simp only [Op.equalIn, Sem.run_bind, run_underlying hu]; rfl
    case h_5 hu => cases e; cases ra; cases rb; simp only [Op.equalIn, Sem.run_bind, run_underlying hu]; rfl
    case h_6 hu => cases e; cases ra; cases rb; simp only [Op.equalIn, Sem.run_bind, run_underlying hu]; rfl
    case h_7 hu => cases e; cases ra; cases rb; simp only [Op.equalIn, Sem.run_bind, run_underlying hu]; rfl
    case h_8 hu => cases e; cases ra; cases rb <;> (simp only [Op.equalIn, Sem.run_bind, run_underlying hu]; rfl)
    case h_9 hu => cases e; cases ra <;> cases rb <;> (simp only [Op.equalIn, Sem.run_bind, run_underlying hu]; rfl)
    case h_10 hu => cases e; cases ra; cases rb; simp only [Op.equalIn, Sem.run_bind, run_underlying hu]; rfl
    case h_11 hu => cases e; cases ra; cases rb; simp only [Op.equalIn, Sem.run_bind, run_underlying hu]; rfl
    case h_12 hu => cases e; cases ra; cases rb; simp only [Op.equalIn, Sem.run_bind, run_underlying hu]; rfl
    case h_13 hu => cases e; cases ra; cases rb; simp only [Op.equalIn, Sem.run_bind, run_underlying hu]; rfl
    case h_14 hu => cases e; cases ra; cases rb; simp only [Op.equalIn, Sem.run_bind, run_underlying hu]; rfl
    case h_15 hu => cases e; cases ra; cases rb; simp only [Op.equalIn, Sem.run_bind, run_underlying hu]; rfl
    case h_16 fields xs ys hu =>
      cases ra with
      | agg h1 h2 =>
      cases rb with
      | agg h3 h4 =>
      split at e
      · cases e
      · rename_i hp
        have hf : P.underlying t = some (.struct (P.fieldsOf t)) := by simp [Program.fieldsOf, hu]
        rw [run_equalIn_struct w D t _ _ hf (by simpa using hp)]
        have : P.fieldsOf t = fields := by simp only [Program.fieldsOf, hu]
        rw [this]
        exact eqFields_sound (fun t a b x y r => eqV_sound d t a b x y r) _ _ _ _ _ _ (.ofArr h1 h2) (.ofArr h3 h4) e D hD' w
    case h_17 hu =>
      cases ra with
      | agg h1 h2 =>
      cases rb with
      | agg h3 h4 =>
      split at e
      · rename_i i hi
        rw [run_equalIn_array w D t _ _ i.size _ _ hu (sizeT_info hi)]
        exact eqElems_sound (fun t a b x y r => eqV_sound d t a b x y r) _ _ _ _ _ _ _ (.ofArr h1 h2) (.ofArr h3 h4) e D hD' w
      · cases e

end Go.Ab

namespace Go.Ab
open Go.RowKit

variable {P : Program} {n0 : Nat} {w0 : World} {ρ : Pl} {h : AH} {w : World}

/-! ### a frame -/

def GR (ρ : Pl) : Prop := ∀ g, g < gMax → ∃ ce, ρ (Id.ofNat g) = some ⟨g, 0, ce⟩
theorem GR.mono {ρ ρ' : Pl} (e : Ext ρ ρ') (h : GR ρ) : GR ρ' := fun g hg => let ⟨ce, hc⟩ := h g hg; ⟨ce, e _ _ hc⟩

structure ER (ρ : Pl) (n : Nat) (e : Env) (tmps : Array Value) : Prop where
  size : tmps.size = n
  vals : ∀ t, t < 512 → VR ρ (e.get t) (tmps.getD t Go.undef)
  glob : GR ρ

theorem ER.mono {ρ ρ' : Pl} {n : Nat} {e : Env} {tmps : Array Value} (x : Ext ρ ρ') (h : ER ρ n e tmps) : ER ρ' n e tmps :=
  ⟨h.size, fun t ht => (h.vals t ht).mono x, h.glob.mono x⟩

theorem opv_sound {n : Nat} {e : Env} {a : Act} (E : ER ρ n e a.tmps) (x : Operand) : VR ρ (opv e x) (a.eval x) := by
  cases x with
  | tmp t =>
    simp only [opv]
    split
    · rename_i ht
      exact E.vals t (by rwa [Nat.blt_eq] at ht)
    · exact .top _
  | const v => exact constOf_sound v
  | global g =>
    simp only [opv]
    split
    · rename_i hg
      obtain ⟨ce, hc⟩ := E.glob g (by rwa [Nat.blt_eq] at hg)
      have := VR.ptr (o := 0) hc
      simpa [Act.eval] using this
    · exact .top _
  | func f => exact .fnA (.nil ρ) (.nil ρ)

theorem opvs_sound {n : Nat} {e : Env} {a : Act} (E : ER ρ n e a.tmps) (xs : Array Operand) : VRs ρ (xs.toList.map (opv e)) (xs.map a.eval).toList := by
  refine ⟨by simp, fun i b v hb hv => ?_⟩
  simp only [Array.toList_map, List.getElem?_map] at hb hv
  cases hx : xs.toList[i]? with
  | none => rw [hx] at hb; cases hb
  | some x =>
    rw [hx] at hb hv
    cases hb; cases hv
    exact opv_sound E x

theorem opvO_sound {n : Nat} {e : Env} {a : Act} (E : ER ρ n e a.tmps) (x : Option Operand) :
    (x = none ∧ x.map (opv e) = none ∧ x.map a.eval = none) ∨ ∃ b v, x.map (opv e) = some b ∧ x.map a.eval = some v ∧ VR ρ b v := by
  cases x with
  | none => exact .inl ⟨rfl, rfl, rfl⟩
  | some x => exact .inr ⟨_, _, rfl, rfl, opv_sound E x⟩

/-! ### operations that hang on their operands alone -/

theorem guard_ok {op : BinOp} {d t : Nat} {a b : AV} {x y : Value} {r : Bool} (ox oy : Operand) (ra : VR ρ a x) (rb : VR ρ b y) (e : eqV P d t a b = some r) (hg : P.eqGuardType P.depth t = false) (w : World) :
    (eqGuard op t ox oy x y).run P w = .ok () w := by
  cases d with
  | zero => simp [eqV] at e
  | succ d =>
    unfold eqV at e
    split at e <;> first | (cases e; done) | skip
    case h_16 fields xs ys hu => cases ra; cases rb; exact run_eqGuard_agg w op t ox oy _ _ hg
    case h_17 len elem xs ys hu => cases ra; cases rb; exact run_eqGuard_agg w op t ox oy _ _ hg
    all_goals (cases ra <;> first | (rw [eqGuard_at_bool]; rfl) | (rw [eqGuard_at_int]; rfl) | (rw [eqGuard_at_string]; rfl) | (rw [eqGuard_at_pointer]; rfl) | (rw [eqGuard_at_slice]; rfl) | (rw [eqGuard_at_map]; rfl) | (rw [eqGuard_at_func]; rfl) | (rw [eqGuard_at_nilFunc]; rfl))

theorem binOp_eql_any (t : Nat) {x y : Value} {d : Nat} {r : Bool} {a b : AV} (ra : VR ρ a x) (rb : VR ρ b y) (e : eqV P d t a b = some r) (hd : d ≤ 10000)
    (hi : ∀ k n k' m, ¬ (a = .int k n ∧ b = .int k' m)) (hs : ∀ s u, ¬ (a = .str s ∧ b = .str u)) (w : World) :
    (binOp .eql t x y).run P w = .ok (.bool r) w ∧ (binOp .neq t x y).run P w = .ok (.bool (!r)) w := by
  have E := eqV_sound d t a b x y r ra rb e 10000 hd w
  have h1 : (Op.equal t x y).run P w = .ok r w := E
  cases d with
  | zero => simp [eqV] at e
  | succ d =>
    have k1 : binOp .eql t x y = (do pure (.bool (← Op.equal t x y))) ∧ binOp .neq t x y = (do pure (.bool (!(← Op.equal t x y)))) := by
      unfold eqV at e
      split at e <;> first | (cases e; done) | skip
      case h_2 hu => exact absurd ⟨rfl, rfl⟩ (hi _ _ _ _)
      case h_3 hu => exact absurd ⟨rfl, rfl⟩ (hs _ _)
      all_goals (cases ra <;> cases rb <;> exact ⟨rfl, rfl⟩)
    rw [k1.1, k1.2]
    simp [h1]

theorem binOpA_sound {op : BinOp} {t : Nat} {a b r : AV} {x y : Value} (ox oy : Operand) (ra : VR ρ a x) (rb : VR ρ b y) (e : binOpA P op t a b = some r) :
    Gives P ρ (do eqGuard op t ox oy x y; binOp op t x y) r := by
  have lift : ∀ {s : Sem Value} {g : Sem Unit}, Gives P ρ s r → (∀ w, g.run P w = .ok () w) → Gives P ρ (do g; s) r := fun ⟨v, hv, hr⟩ hg =>
    ⟨v, fun w => by simp [hg, hv], hr⟩
  unfold binOpA at e
  split at e
  · cases ra; cases rb
    exact lift (shiftBin_sound t (.inl rfl) e) fun w => by rw [eqGuard_at_int]; rfl
  · cases ra; cases rb
    exact lift (shiftBin_sound t (.inr rfl) e) fun w => by rw [eqGuard_at_int]; rfl
  · rename_i h1 h2
    cases ra; cases rb
    split at e
    · rename_i hk
      have := eqK_eq hk
      subst this
      exact lift (intBin_sound t (fun e => h1 e) (fun e => h2 e) e) fun w => by rw [eqGuard_at_int]; rfl
    · cases e
  · cases ra with
    | str h1 =>
    cases rb with
    | str h2 =>
    subst h1 h2
    exact lift (strBin_sound t e) fun w => by rw [eqGuard_at_string]; rfl
  · rename_i h1 h2
    split at e
    · rename_i hg
      split at e
      · rename_i q hq
        cases e
        exact lift ⟨_, fun w => (binOp_eql_any t ra rb hq (by decide) (fun k n k' m hh => h1 _ _ _ _ hh.1 hh.2) (fun s u hh => h2 _ _ hh.1 hh.2) w).1, .bool _⟩ fun w => guard_ok ox oy ra rb hq hg w
      · cases e
    · cases e
  · rename_i h1 h2
    split at e
    · rename_i hg
      split at e
      · rename_i q hq
        cases e
        exact lift ⟨_, fun w => (binOp_eql_any t ra rb hq (by decide) (fun k n k' m hh => h1 _ _ _ _ hh.1 hh.2) (fun s u hh => h2 _ _ hh.1 hh.2) w).2, .bool _⟩ fun w => guard_ok ox oy ra rb hq hg w
      · cases e
    · cases e
  · cases e

theorem unOpA_sound {op : UnOp} {a r : AV} {x : Value} (ra : VR ρ a x) (e : unOpA op a = some r) : Gives P ρ (Op.unary op x) r := by
  unfold unOpA at e
  split at e
  · cases ra; cases e; exact ⟨_, fun w => by rw [unary_not]; rfl, .bool _⟩
  · cases ra; cases e
    rename_i k n
    refine ⟨.int k (k.wrap (0 - n)), fun w => ?_, by rw [wrapI_eq]; exact .int _ _⟩
    rw [unary_neg]; simp [Op.intArith]
  · cases ra; cases e
    rename_i k n
    refine ⟨.int k (k.wrap ((BitVec.ofInt k.bits (if k.signed then -1 else k.max) ^^^ BitVec.ofInt k.bits n).toNat : Int)), fun w => ?_, ?_⟩
    · rw [unary_xor]; rfl
    · have e1 : BitVec.ofInt k.bits (if k.signed then -1 else k.max) = BitVec.allOnes k.bits := by cases k <;> decide
      have e2 : wrapN k (modulus k - 1 - resid k n) = k.wrap ((BitVec.ofInt k.bits (if k.signed then -1 else k.max) ^^^ BitVec.ofInt k.bits n).toNat : Int) := by
        rw [← wrapN_eq _ _ (bits_lt _), e1, BitVec.allOnes_xor, BitVec.toNat_not, toNat_ofInt, modulus_eq]
      rw [e2]; exact .int _ _
  · cases e

theorem nilCheckA_sound {a r : AV} {x : Value} {o : Oper} {y : Operand} {ac : Act} (ho : o.op = .nilCheck y) (hx : ac.eval y = x) (ra : VR ρ a x) (e : nilCheckA a = some r) :
    VR ρ r x ∧ ∀ w, (execOp ac.eval o).run P w = .ok (.value x) w := by
  obtain ⟨dst, op, ty, pos, after, guard⟩ := o
  simp only at ho
  subst ho
  cases ra <;> simp only [nilCheckA, Option.some.injEq] at e <;> first | (cases e; done) | subst e
  all_goals (refine ⟨by constructor <;> assumption, fun w => ?_⟩; simp only [execOp, hx]; rfl)

theorem extractA_sound {a r : AV} {x : Value} {i : Nat} (ra : VR ρ a x) (e : extractA a i = some r) : Gives P ρ (Instr.extract x i) r := by
  unfold extractA at e
  split at e
  · cases ra with
    | tup hl hr =>
    obtain ⟨v, hv, hvr⟩ := (VRs.ofArr hl hr).get e
    rename_i vs
    have hv' : vs[i]? = some v := by simpa using hv
    refine ⟨v, fun w => ?_, hvr⟩
    simp only [Instr.extract, hv']; rfl
  · cases e

theorem getN_sub {cs l : List AV} {xs : Array Value} {o n : Nat} (r : VRs ρ cs xs.toList) (e : getN cs o n = some l) : VRs ρ l (xs.extract o (o + n)).toList := by
  obtain ⟨h1, h2⟩ := getN_spec e
  have hle : n = 0 ∨ o + n ≤ xs.size := by
    rcases Nat.eq_zero_or_pos n with h0 | h0
    · exact .inl h0
    · right
      have := h2 (n - 1) (by omega)
      have hs : l[n - 1]? = some l[n - 1] := List.getElem?_eq_getElem (by omega)
      rw [hs] at this
      have hlt := (List.getElem?_eq_some_iff.1 this.symm).1
      have := r.1
      simp at this
      omega
  refine ⟨by simp [h1]; omega, fun i b v hb hv => ?_⟩
  simp only [Array.toList_extract, List.extract_eq_take_drop, List.getElem?_take, List.getElem?_drop] at hv
  split at hv
  · rename_i hi
    rw [h2 i (by omega)] at hb
    exact r.2 _ _ _ hb hv
  · cases hv

theorem getN_one {cs l : List AV} {xs : Array Value} {o : Nat} {a : AV} (r : VRs ρ cs xs.toList) (e : getN cs o 1 = some (a :: l)) : ∃ v, xs[o]? = some v ∧ VR ρ a v := by
  obtain ⟨h1, h2⟩ := getN_spec e
  have := h2 0 (by omega)
  simp only [List.getElem?_cons_zero, Nat.add_zero] at this
  obtain ⟨v, hv, hr⟩ := r.get this.symm
  exact ⟨v, by simpa using hv, hr⟩

theorem part_agg {t n : Nat} {xs : Array Value} {o : Nat} (ht : isAggT P t = some true) (hn : sizeT P t = some n) (w : World) : (part t xs o).run P w = .ok (.agg (xs.extract o (o + n))) w := by
  simp [part, isAggT_run ht, sizeT_run hn]
theorem part_cell {t : Nat} {xs : Array Value} {o : Nat} {v : Value} (ht : isAggT P t = some false) (hv : xs[o]? = some v) (w : World) : (part t xs o).run P w = .ok v w := by
  simp only [part, Sem.run_bind, isAggT_run ht, Result.andThen_ok, Bool.false_eq_true, if_false, hv]; rfl

theorem fieldA_sound {t i : Nat} {a r : AV} {x : Value} (ra : VR ρ a x) (e : fieldA P t a i = some r) : Gives P ρ (Instr.field t x i) r := by
  unfold fieldA at e
  split at e
  · rename_i fields cs hu
    cases ra with
    | agg hl hr =>
    rename_i xs
    have hs := VRs.ofArr hl hr
    split at e
    · rename_i f hf
      have hf' : fields[i]? = some f := by simpa using hf
      have pre : ∀ w, (Instr.field t (.agg xs) i).run P w = (part f.type xs f.offset).run P w := fun w => by
        simp only [Instr.field, Sem.run_bind, run_underlying hu, Result.andThen_ok, hf', asAgg]
        rfl
      split at e
      · rename_i n hag hn
        split at e
        · rename_i l hl
          cases e
          exact ⟨_, fun w => by rw [pre, part_agg hag hn], .aggA (getN_sub hs hl)⟩
        · cases e
      · rename_i n hag hn
        split at e
        · rename_i v l hl
          cases e
          obtain ⟨u, hu', hr'⟩ := getN_one hs hl
          exact ⟨u, fun w => by rw [pre, part_cell hag hu'], hr'⟩
        · cases e
      · cases e
    · cases e
  · cases e

theorem natOf_int {a : AV} {n : Nat} {x : Value} (ra : VR ρ a x) (e : natOf a = some n) : ∃ k, x = .int k (n : Int) := by
  unfold natOf at e
  split at e
  · cases e; cases ra; exact ⟨_, rfl⟩
  · cases e

theorem nthL_spec : ∀ {l : List Nat} {i c : Nat}, nthL l i = some c → l[i]? = some c
  | [], i, c, e => by simp [nthL] at e
  | x :: xs, 0, c, e => by simpa [nthL] using e
  | x :: xs, i + 1, c, e => by simp only [nthL] at e; simpa using nthL_spec e

theorem indexA_sound {t : Nat} {a i r : AV} {x ix : Value} (ra : VR ρ a x) (ri : VR ρ i ix) (e : indexA P t a i = some r) : Gives P ρ (Instr.index t x ix) r := by
  unfold indexA at e
  split at e
  · cases e
  · rename_i n hn
    obtain ⟨k, rfl⟩ := natOf_int ri hn
    split at e
    · rename_i len elem cs hu
      cases ra with
      | agg hl hr =>
      rename_i xs
      have hs := VRs.ofArr hl hr
      have pre : ∀ (m : Nat) w, Nat.blt n len = true → sizeT P elem = some m → (Instr.index t (.agg xs) (.int k n)).run P w = (part elem xs (n * m)).run P w := fun m w hlt hm => by
        rw [Nat.blt_eq] at hlt
        have h0 : (0 : Int) ≤ (n : Int) ∧ (n : Int) < (len : Int) := by omega
        simp only [Instr.index, Sem.run_bind, asIntOf, Sem.run_pure, Result.andThen_ok, run_underlying hu, if_pos h0, sizeT_run hm, Int.toNat_natCast]
      split at e
      · rename_i m hlt hag hm
        split at e
        · rename_i l hl
          cases e
          exact ⟨_, fun w => by rw [pre m w hlt hm, part_agg hag hm], .aggA (getN_sub hs hl)⟩
        · cases e
      · rename_i m hlt hag hm
        split at e
        · rename_i v l hl
          cases e
          obtain ⟨u, hu', hr'⟩ := getN_one hs hl
          exact ⟨u, fun w => by rw [pre m w hlt hm, part_cell hag hu'], hr'⟩
        · cases e
      · cases e
    · rename_i s hu
      cases ra with
      | str hs =>
      rename_i b
      split at e
      · rename_i c hc
        cases e
        have hc' := nthL_spec hc
        subst hs
        simp only [bytesOfArr, List.getElem?_map, Option.map_eq_some_iff] at hc'
        obtain ⟨u, hu1, rfl⟩ := hc'
        have hb : b[n]? = some u := by
          have hlt : n < b.data.size := by
            have := (List.getElem?_eq_some_iff.1 hu1).1
            simpa using this
          have hu2 : b.data[n] = u := by
            have := (List.getElem?_eq_some_iff.1 hu1).2
            simpa using this
          rw [getElem?_pos b n hlt]
          exact congrArg some hu2
        refine ⟨.int .u8 u.toNat, fun w => ?_, .int _ _⟩
        have h0 : (0 : Int) ≤ (n : Int) := by omega
        simp only [Instr.index, Sem.run_bind, asIntOf, Sem.run_pure, Result.andThen_ok, run_underlying hu, if_pos h0, Int.toNat_natCast, hb]
      · cases e
    · cases e

end Go.Ab
