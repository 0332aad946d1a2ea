import Derived.Test.YtoobfpnphhcaoaaGreatDoorT05
import Derived.Laws.Slices
set_option linter.unusedVariables false
set_option linter.unusedSimpArgs false
namespace Go.Ab
open Go.RowKit

variable {P : Program} {n0 : Nat} {w0 : World} {ρ : Pl} {h : AH} {w : World}

/-! ### addresses -/

theorem fieldAddrA_sound {t i : Nat} {a r : AV} {x : Value} (ra : VR ρ a x) (e : fieldAddrA P t a i = some r) : Gives P ρ (Instr.fieldAt t x i) r := by
  unfold fieldAddrA at e
  split at e
  · rename_i fields b o hu
    cases ra with
    | ptr hp =>
    rename_i pl
    split at e
    · rename_i f hf
      have hf' : fields[i]? = some f := by simpa using hf
      split at e
      · rename_i m hm
        cases e
        refine ⟨.pointer (some ⟨pl.blk, pl.sh + (o + f.offset), none⟩), fun w => ?_, .ptr hp⟩
        simp only [Instr.fieldAt, Sem.run_bind, run_underlying hu, Result.andThen_ok, hf', Instr.sureAddr, Sem.run_pure, fieldPlace, sizeT_run hm]
        simp [add_eq, Nat.add_assoc]
      · cases e
    · cases e
  · cases e

theorem indexAddrA_sound {t : Nat} {a i r : AV} {x ix : Value} (ra : VR ρ a x) (ri : VR ρ i ix) (e : indexAddrA P t a i = some r) : Gives P ρ (Instr.indexAt t x ix) r := by
  unfold indexAddrA at e
  split at e
  · cases e
  · rename_i n hn
    obtain ⟨k, rfl⟩ := natOf_int ri hn
    split at e
    · rename_i len elem b o hu
      cases ra with
      | ptr hp =>
      rename_i pl
      split at e
      · rename_i sz hlt hsz
        cases e
        rw [Nat.blt_eq] at hlt
        have h0 : (0 : Int) ≤ (n : Int) ∧ (n : Int) < (len : Int) := by omega
        refine ⟨.pointer (some ⟨pl.blk, pl.sh + (o + n * sz), none⟩), fun w => ?_, .ptr hp⟩
        simp only [Instr.indexAt, Sem.run_bind, asIntOf, Sem.run_pure, Result.andThen_ok, run_underlying hu, Instr.sureAddr, if_pos h0, sizeT_run hsz, Int.toNat_natCast, add_eq, Nat.add_assoc]
      · cases e
    · rename_i elem b o len cap hu
      split at e
      · rename_i sz hlt hsz
        cases e
        rw [Nat.blt_eq] at hlt
        have h0 : (0 : Int) ≤ (n : Int) ∧ (n : Int) < (len : Int) := by omega
        have key : ∀ (pl : Place) (c : Nat), ρ b = some pl → x = .slice (some ⟨pl.blk, pl.sh + o, none⟩) len c → Gives P ρ (Instr.indexAt t x (.int k n)) (.ptr b (o + n * sz)) := fun pl c hp hx => by
          subst hx
          refine ⟨.pointer (some ⟨pl.blk, pl.sh + (o + n * sz), none⟩), fun w => ?_, .ptr hp⟩
          simp only [Instr.indexAt, Sem.run_bind, asIntOf, Sem.run_pure, Result.andThen_ok, run_underlying hu, if_pos h0, sizeT_run hsz, Int.toNat_natCast, add_eq, Nat.add_assoc]
        cases ra with
        | slice hp => exact key _ _ hp rfl
        | sliceO hp _ _ => exact key _ _ hp rfl
        | sliceE hp he => omega
        | sliceZ hp => omega
      · cases e
    · cases e

/-! ### slicing -/

/-- An option's value, beside one of the model's. -/
def OR (ρ : Pl) (x : Option AV) (y : Option Value) : Prop := (x = none ∧ y = none) ∨ ∃ a v, x = some a ∧ y = some v ∧ VR ρ a v

theorem boundA_some {x : AV} {y : Value} {d c n : Nat} (r : VR ρ x y) (e : boundA (some x) d c = some n) : n ≤ c ∧ ∀ code w, (Instr.sliceBound y c code).run P w = .ok n w := by
  unfold boundA at e
  simp only at e
  split at e
  · rename_i m hm
    split at e
    · rename_i hle
      cases e
      obtain ⟨k, rfl⟩ := natOf_int r hm
      have hle' := Nat.le_of_ble_eq_true hle
      refine ⟨hle', fun code w => ?_⟩
      rw [run_sliceBound w k _ _ code (by omega) (by omega), Int.toNat_natCast]
    · cases e
  · cases e

theorem boundA_int {x : AV} {y : Value} {d c n : Nat} (r : VR ρ x y) (e : boundA (some x) d c = some n) : n ≤ c ∧ ∃ k, y = .int k (n : Int) := by
  unfold boundA at e
  simp only at e
  split at e
  · rename_i q hq
    split at e
    · rename_i hb; cases e; exact ⟨Nat.le_of_ble_eq_true hb, natOf_int r hq⟩
    · cases e
  · cases e

theorem bound_run {k : IntKind} {n c : Nat} (h : n ≤ c) (code : BoundsCode) (w : World) : (Instr.sliceBound (.int k (n : Int)) c code).run P w = .ok n w := by
  rw [run_sliceBound w k _ _ code (by omega) (by omega), Int.toNat_natCast]

theorem low_int {lo : Option AV} {clo : Option Value} {hh l : Nat} (rl : OR ρ lo clo) (e : boundA lo 0 hh = some l) : l ≤ hh ∧ ((clo = none ∧ l = 0) ∨ ∃ k, clo = some (.int k (l : Int))) := by
  rcases rl with ⟨rfl, rfl⟩ | ⟨a, v, rfl, rfl, r⟩
  · simp only [boundA, Option.some.injEq] at e; subst e; exact ⟨Nat.zero_le _, .inl ⟨rfl, rfl⟩⟩
  · obtain ⟨h1, k, rfl⟩ := boundA_int r e
    exact ⟨h1, .inr ⟨k, rfl⟩⟩

theorem boundsA_sound {len : Nat} {cap : Option Nat} {lo hi mx : Option AV} {clo chi cmx : Option Value} {l hh : Nat} {m : Option Nat} (e : boundsA len cap lo hi mx = some (l, hh, m))
    (rl : OR ρ lo clo) (rh : OR ρ hi chi) (rm : OR ρ mx cmx) {C : Nat} (hcap : ∀ c, cap = some c → C = c) (hlen : cap = none → len ≤ C) :
    (∀ b w, (Instr.sliceBounds b len C clo chi cmx).run P w = .ok (l, hh, m.getD C) w) ∧ l ≤ hh ∧ (m = none → hh ≤ len ∧ cap = none) := by
  have hC : cap.getD len ≤ C := by
    cases cap with
    | none => exact hlen rfl
    | some c => rw [hcap c rfl]; exact Nat.le_refl _
  have hC' : cap.getD C = C := by
    cases cap with
    | none => rfl
    | some c => rw [hcap c rfl]; rfl
  unfold boundsA at e
  split at e
  · have hm : cmx = none := by
      rcases rm with ⟨_, h⟩ | ⟨a, v, h1, _, _⟩
      · exact h
      · cases h1
    subst hm
    split at e
    · rename_i hv hhe
      split at e
      · rename_i lv hle
        simp only [Option.some.injEq, Prod.mk.injEq] at e
        obtain ⟨rfl, rfl, rfl⟩ := e
        obtain ⟨h1, h2⟩ := low_int rl hle
        rcases rh with ⟨rfl, rfl⟩ | ⟨a, v, rfl, rfl, r⟩
        · simp only [boundA, Option.some.injEq] at hhe
          subst hhe
          refine ⟨fun b w => ?_, h1, fun hm => ⟨Nat.le_refl _, hm⟩⟩
          rcases h2 with ⟨rfl, rfl⟩ | ⟨k, rfl⟩
          · simp [Instr.sliceBounds, hC']
          · simp [Instr.sliceBounds, bound_run h1, hC']
        · obtain ⟨g1, k, rfl⟩ := boundA_int r hhe
          have g3 : ∀ code w, (Instr.sliceBound (.int k (hv : Int)) C code).run P w = .ok hv w := fun code w => bound_run (Nat.le_trans g1 hC) code w
          refine ⟨fun b w => ?_, h1, fun hm => by subst hm; exact ⟨g1, rfl⟩⟩
          rcases h2 with ⟨rfl, rfl⟩ | ⟨k, rfl⟩
          · simp [Instr.sliceBounds, g3, hC']
          · simp [Instr.sliceBounds, g3, bound_run h1, hC']
      · cases e
    · cases e
  · rename_i am
    obtain ⟨vm, rfl, r⟩ : ∃ v, cmx = some v ∧ VR ρ am v := by
      rcases rm with ⟨h1, _⟩ | ⟨a, v, h1, h2, r⟩
      · cases h1
      · cases h1; exact ⟨v, h2, r⟩
    split at e
    · rename_i m' hx hm'
      split at e
      · rename_i hv hhe
        split at e
        · rename_i lv hle
          simp only [Option.some.injEq, Prod.mk.injEq] at e
          obtain ⟨rfl, rfl, rfl⟩ := e
          obtain ⟨h1, h2⟩ := low_int rl hle
          obtain ⟨u, rfl, r'⟩ : ∃ v, chi = some v ∧ VR ρ hx v := by
            rcases rh with ⟨h3, _⟩ | ⟨b, u, h3, h4, r'⟩
            · cases h3
            · cases h3; exact ⟨u, h4, r'⟩
          obtain ⟨q1, k, rfl⟩ := boundA_int r hm'
          obtain ⟨g1, k', rfl⟩ := boundA_int r' hhe
          refine ⟨fun b w => ?_, h1, fun hm => by cases hm⟩
          have q2 : ∀ code w, (Instr.sliceBound (.int k (m' : Int)) C code).run P w = .ok m' w := fun code w => bound_run (Nat.le_trans q1 hC) code w
          have q3 : ∀ code w, (Instr.sliceBound (.int k' (hv : Int)) m' code).run P w = .ok hv w := fun code w => bound_run g1 code w
          rcases h2 with ⟨rfl, rfl⟩ | ⟨k, rfl⟩
          · simp [Instr.sliceBounds, q2, q3]
          · simp [Instr.sliceBounds, q2, q3, bound_run h1]
        · cases e
      · cases e
    · cases e

theorem bytesOfArr_extract (s : ByteArray) (l h : Nat) : bytesOfArr (s.extract l h) = ((bytesOfArr s).drop l).take (h - l) := by
  simp only [bytesOfArr, ByteArray.data_extract, Array.toList_extract, List.extract_eq_take_drop, List.map_take, List.map_drop]

/-- A slice's address behind a slicing. -/
theorem slice_addr (b o l m sz : Nat) : (if m = l then (some ⟨b, o, none⟩ : Option Addr) else (some ⟨b, o, none⟩ : Option Addr).map (·.add (l * sz))) = some ⟨b, if m = l then o else o + l * sz, none⟩ := by
  split
  · rfl
  · simp [add_eq]

theorem pickN_eq (c l x y : Nat) : pickN c l x y = if c = l then x else y := by
  unfold pickN
  by_cases h : c = l
  · subst h; simp [Nat.beq_refl]
  · rw [if_neg h]
    have : Nat.beq c l = false := by rw [← Bool.not_eq_true, Nat.beq_eq]; exact h
    rw [this]

theorem zero_bounds {cap : Option Nat} {lo hi mx : Option AV} {chi cmx : Option Value} {l hh m : Nat} (e : boundsA 0 cap lo hi mx = some (l, hh, some m)) (rm : OR ρ mx cmx) (rh : OR ρ hi chi) (h0 : cap.getD 0 ≤ 0) :
    l = 0 ∧ hh = 0 ∧ m = 0 := by
  have bd : ∀ {x : Option AV} {d c n : Nat}, boundA x d c = some n → n ≤ max d c := fun {x d c n} e => by
    cases x with
    | none => simp only [boundA, Option.some.injEq] at e; omega
    | some a =>
      unfold boundA at e
      simp only at e
      split at e
      · split at e
        · rename_i hb; cases e; have := Nat.le_of_ble_eq_true hb; omega
        · cases e
      · cases e
  unfold boundsA at e
  split at e
  · split at e
    · rename_i hv hhe
      split at e
      · rename_i lv hle
        simp only [Option.some.injEq, Prod.mk.injEq] at e
        obtain ⟨rfl, rfl, rfl⟩ := e
        have h1 := bd hhe
        have h2 := bd hle
        simp only [Option.getD_some] at h0 h1
        omega
      · cases e
    · cases e
  · split at e
    · rename_i m' hx hm'
      split at e
      · rename_i hv hhe
        split at e
        · rename_i lv hle
          cases e
          have h1 := bd hm'
          have h2 := bd hhe
          have h3 := bd hle
          omega
        · cases e
      · cases e
    · cases e

theorem sliceA_sound {t : Nat} {a r : AV} {x : Value} {lo hi mx : Option AV} {clo chi cmx : Option Value} (ra : VR ρ a x) (rl : OR ρ lo clo) (rh : OR ρ hi chi) (rm : OR ρ mx cmx)
    (e : sliceA P t a lo hi mx = some r) : Gives P ρ (Instr.sliceAt t x clo chi cmx) r := by
  unfold sliceA at e
  split at e
  · rename_i n elem b o hu
    cases ra with
    | ptr hp =>
    rename_i pl
    split at e
    · rename_i l hh c sz hb hsz
      cases e
      obtain ⟨h1, h2, h3⟩ := boundsA_sound (P := P) hb rl rh rm (C := n) (fun c hc => by cases hc; rfl) (fun hc => by cases hc)
      simp only [Option.getD_some] at h1
      refine ⟨.slice (some ⟨pl.blk, pl.sh + (if c = l then o else o + l * sz), none⟩) (hh - l) (c - l), fun w => ?_, by rw [pickN_eq]; exact .slice hp⟩
      simp only [Instr.sliceAt, Sem.run_bind, run_underlying hu, Result.andThen_ok, Instr.sureAddr, Sem.run_pure, h1, sizeT_run hsz]
      congr 3
      split
      · rfl
      · rw [add_eq, Nat.add_assoc]
    · cases e
  · rename_i s hu
    cases ra with
    | str hs =>
    rename_i bs
    subst hs
    split at e
    · rename_i l hh c hb
      cases e
      have hn : OR ρ (none : Option AV) (none : Option Value) := .inl ⟨rfl, rfl⟩
      obtain ⟨h1, h2, h3⟩ := boundsA_sound (P := P) hb rl rh hn (C := (bytesOfArr bs).length) (fun c hc => by cases hc; rfl) (fun hc => by cases hc)
      have hm : cmx = none := by
        rcases rm with ⟨_, h⟩ | ⟨_, _, h0, _, _⟩
        · exact h
        · cases h0
      subst hm
      rw [bytesOfArr_length] at h1
      refine ⟨.string (bs.extract l hh), fun w => ?_, .str (bytesOfArr_extract bs l hh)⟩
      simp only [Instr.sliceAt, Instr.slice, Sem.run_bind, run_underlying hu, Result.andThen_ok, Option.isSome_none, Bool.false_eq_true, if_false, Sem.run_pure, h1]
    · cases e
  · rename_i elem hu
    cases ra with
    | nilslice =>
    split at e
    · rename_i sz hb hsz
      cases e
      obtain ⟨h1, h2, h3⟩ := boundsA_sound (P := P) hb rl rh rm (C := 0) (fun c hc => by cases hc; rfl) (fun hc => by cases hc)
      simp only [Option.getD_some] at h1
      refine ⟨.slice none 0 0, fun w => ?_, .nilslice⟩
      simp only [Instr.sliceAt, Instr.slice, Sem.run_bind, run_underlying hu, Result.andThen_ok, h1, sizeT_run hsz, if_true, Sem.run_pure]
    · cases e
  · rename_i elem b o len cap hu
    have run : ∀ (ad : Addr) (C l hh m sz : Nat), (∀ b w, (Instr.sliceBounds b len C clo chi cmx).run P w = .ok (l, hh, m) w) → sizeT P elem = some sz → ∀ w,
        (Instr.sliceAt t (.slice (some ad) len C) clo chi cmx).run P w = .ok (.slice (if m = l then some ad else (some ad).map (·.add (l * sz))) (hh - l) (m - l)) w := fun ad C l hh m sz h1 hsz w => by
      simp only [Instr.sliceAt, Instr.slice, Sem.run_bind, run_underlying hu, Result.andThen_ok, h1, sizeT_run hsz, Sem.run_pure]
    split at e
    · rename_i l hh c sz hb hsz
      cases e
      rw [pickN_eq]
      cases ra with
      | slice hp =>
        rename_i C pl
        obtain ⟨h1, h2, h3⟩ := boundsA_sound (P := P) hb rl rh rm (C := C) (fun c hc => by cases hc; rfl) (fun hc => by cases hc)
        refine ⟨_, fun w => run _ C l hh c sz h1 hsz w, ?_⟩
        rw [slice_addr]
        have : (if c = l then pl.sh + o else pl.sh + o + l * sz) = pl.sh + (if c = l then o else o + l * sz) := by split <;> omega
        rw [this]; exact .slice hp
      | sliceO hp hc he =>
        rename_i C pl
        obtain ⟨h1, h2, h3⟩ := boundsA_sound (P := P) hb rl rh rm (C := C) (fun c hc => by cases hc) (fun _ => hc)
        refine ⟨_, fun w => run _ C l hh c sz h1 hsz w, ?_⟩
        rw [slice_addr]
        have : (if c = l then pl.sh + o else pl.sh + o + l * sz) = pl.sh + (if c = l then o else o + l * sz) := by split <;> omega
        rw [this]; exact .slice hp
      | sliceE hp he =>
        rename_i ad pl
        obtain ⟨h1, h2, h3⟩ := boundsA_sound (P := P) hb rl rh rm (C := 0) (fun c hc => by cases hc) (fun _ => Nat.le_refl _)
        have hz := zero_bounds hb rm rh (Nat.le_refl _)
        obtain ⟨rfl, rfl, rfl⟩ := hz
        refine ⟨_, fun w => run _ 0 0 0 0 sz h1 hsz w, ?_⟩
        simp only [if_true]; exact .sliceZ hp
      | sliceZ hp =>
        rename_i ad pl
        obtain ⟨h1, h2, h3⟩ := boundsA_sound (P := P) hb rl rh rm (C := 0) (fun c hc => by cases hc; rfl) (fun hc => by cases hc)
        have hz := zero_bounds hb rm rh (Nat.le_refl _)
        obtain ⟨rfl, rfl, rfl⟩ := hz
        refine ⟨_, fun w => run _ 0 0 0 0 sz h1 hsz w, ?_⟩
        simp only [if_true]; exact .sliceZ hp
    · rename_i l hh sz hb hsz
      split at e
      · rename_i sz'
        split at e
        · rename_i hq
          cases e
          have := Nat.eq_of_beq_eq_true hq
          subst this
          cases ra with
          | sliceO hp hc he =>
            rename_i C pl
            obtain ⟨h1, h2, h3⟩ := boundsA_sound (P := P) hb rl rh rm (C := C) (fun c hc => by cases hc) (fun _ => hc)
            obtain ⟨h4, _⟩ := h3 rfl
            simp only [Option.getD_none] at h1
            refine ⟨_, fun w => run _ C l hh C sz h1 hsz w, ?_⟩
            rw [slice_addr]
            by_cases hl : C = l
            · have e1 : hh - l = 0 := by omega
              rw [if_pos hl, e1, hl, Nat.sub_self]; exact .sliceE hp (by rw [← he, hl]; exact Nat.le_refl _)
            · rw [if_neg hl, Nat.add_assoc]
              refine .sliceO hp (by omega) ?_
              have : l * sz ≤ C * sz := Nat.mul_le_mul_right _ (by omega)
              rw [Nat.sub_mul]; omega
          | sliceE hp he =>
            rename_i ad pl
            obtain ⟨h1, h2, h3⟩ := boundsA_sound (P := P) hb rl rh rm (C := 0) (fun c hc => by cases hc) (fun _ => Nat.le_refl _)
            obtain ⟨h4, _⟩ := h3 rfl
            obtain rfl : hh = 0 := by omega
            obtain rfl : l = 0 := by omega
            refine ⟨_, fun w => run _ 0 0 0 0 sz h1 hsz w, ?_⟩
            simp only [if_true, Nat.zero_mul, Nat.add_zero]; exact .sliceE hp he
        · cases e
      · cases e
    · cases e
  · cases e

end Go.Ab

namespace Go.Ab
open Go.RowKit

variable {P : Program} {n0 : Nat} {w0 : World} {ρ : Pl} {h : AH} {w : World}

/-- What one piece of a run of the model's does beside the abstract one. -/
def Ran (P : Program) (n0 : Nat) (w0 : World) (ρ : Pl) (h : AH) (s : Sem Value) (w : World) (a : AV) (h' : AH) : Prop :=
  ∃ x w' ρ', s.run P w = .ok x w' ∧ VR ρ' a x ∧ Goes ρ h w ρ' h' w' ∧ HR n0 w0 ρ' h' w'

theorem Gives.ran {s : Sem Value} {a : AV} (g : Gives P ρ s a) (H : HR n0 w0 ρ h w) : Ran P n0 w0 ρ h s w a h :=
  let ⟨x, hx, hr⟩ := g; ⟨x, w, ρ, hx w, hr, .refl ρ h w, H⟩

/-! ### new blocks -/

/-- A piece of a run that makes a block, whatever number the block is to bear. -/
def Makes (P : Program) (ρ : Pl) (w : World) (s : Sem Value) (b : AB) (mk : Id → AV) : Prop :=
  ∃ x wd o sh ce, (wd = w ∨ wd = w.drew) ∧ s.run P w = .ok x (wd.alloc o) ∧ b.owned = true ∧
    ∀ ρ' i, Ext ρ ρ' → ρ' i = some ⟨w.heap.size, sh, ce⟩ → VR ρ' (mk i) x ∧ BR ρ' (wd.alloc o) ⟨w.heap.size, sh, ce⟩ b

theorem newB_some {h : AH} {r : Option (AB × (Id → AV))} {v : AV} {h' : AH} (e : newB h r = some (v, h')) : ∃ b mk, r = some (b, mk) := by
  unfold newB at e
  split at e
  · exact ⟨_, _, rfl⟩
  · cases e

/-- New cells: more may stand behind those that are known. -/
theorem makes_cells {s : Sem Value} {cs : List AV} {mk : Id → AV} {arr : Array Value} {vs : List Value} {x : Value} {el : TypeId} {fr : Nat × Nat} {wd : World} (hwd : wd = w ∨ wd = w.drew) (hrun : s.run P w = .ok x (wd.alloc (.cells arr el fr)))
    (r : VRs ρ cs vs) (hpre : ∀ j, j < vs.length → arr[j]? = vs[j]?) (hlen : vs.length ≤ arr.size) (hfr : fr.1 = fr.2 ∨ arr.size ≤ fr.1)
    (hmk : ∀ ρ' i, ρ' i = some ⟨w.heap.size, 0, arr.size⟩ → VR ρ' (mk i) x) : Makes P ρ w s (.cells true cs) mk := by
  refine ⟨x, wd, _, 0, arr.size, hwd, hrun, rfl, fun ρ' i hx hi => ⟨hmk ρ' i hi, ?_⟩⟩
  have hsz : wd.heap.size = w.heap.size := by rcases hwd with rfl | rfl <;> rfl
  refine ⟨arr, el, fr, by rw [← hsz]; exact alloc_new wd _, by simp, by simpa using r.1 ▸ hlen, fun j a ha => ?_, fun _ => hfr⟩
  obtain ⟨u, hu, hr⟩ := r.get ha
  have : j < vs.length := (List.getElem?_eq_some_iff.1 hu).1
  exact ⟨u, by simpa [hpre j this] using hu, hr.mono hx⟩

theorem alloc_makes {t : Nat} {z : List AV} (hz : zeroT P t = some z) : Makes P ρ w (Instr.alloc t true (.tuple #[])) (.cells true z) fun i => .ptr i 0 := by
  obtain ⟨i, zv, hi, hzv, hs⟩ := zeroT_info (ρ := ρ) hz
  refine makes_cells (x := .pointer (some ⟨w.heap.size, 0, none⟩)) (el := t) (fr := (0, 0)) (.inl rfl) ?_ hs (arr := zv.cells) (fun j hj => by simp) (by simp) (by simp) fun ρ' i hi => .ptr hi
  simp only [Instr.alloc, Sem.run_bind, run_zeroValue_of hi hzv, Result.andThen_ok, newVar, newRow, run_newObj, Sem.run_pure]
  rfl

theorem box_makes {t : Nat} {a : AV} {x : Value} {cs : List AV} (ra : VR ρ a x) (hc : a.cellsOf = some cs) : Makes P ρ w (Instr.box t x) (.cells true cs) fun i => .ptr i 0 := by
  have hs := cellsOf_sound ra hc
  refine makes_cells (x := .pointer (some ⟨w.heap.size, 0, none⟩)) (el := t) (fr := (0, 0)) (.inl rfl) ?_ hs (arr := x.cells) (fun j hj => by simp) (by simp) (by simp) fun ρ' i hi => .ptr hi
  simp only [Instr.box, Sem.run_bind, newVar, newRow, run_newObj, Sem.run_pure, Result.andThen_ok]
  rfl

theorem makeMap_makes {t : Nat} {key elem : Nat} (hu : P.underlying t = some (.map key elem)) (r : Option Value) (hr : ∀ v, r = some v → ∃ k n, v = .int k n) :
    Makes P ρ w (Instr.makeMap t r) (.map [] 0) fun i => .map i := by
  refine ⟨.map (some w.heap.size), w, .map #[] 0, 0, 0, .inl rfl, ?_, rfl, fun ρ' i _ hi => ⟨.map hi, #[], alloc_new w _, rfl, fun i e ce h => by simp at h⟩⟩
  cases r with
  | none => simp only [Instr.makeMap, Sem.run_bind, run_newObj, Sem.run_pure, Result.andThen_ok]; rfl
  | some v =>
    obtain ⟨k, n, rfl⟩ := hr v rfl
    simp only [Instr.makeMap, Sem.run_bind, run_underlying hu, asInt, asIntOf, run_newObj, Sem.run_pure, Result.andThen_ok]; rfl

theorem repl_spec : ∀ (n : Nat) (z : List AV), (repl n z).length = n * z.length ∧ ∀ j, j < n * z.length → (repl n z)[j]? = z[j % z.length]?
  | 0, z => by simp [repl]
  | n + 1, z => by
    obtain ⟨h1, h2⟩ := repl_spec n z
    refine ⟨by simp [repl, h1, Nat.succ_mul, Nat.add_comm], fun j hj => ?_⟩
    simp only [repl]
    rcases Nat.lt_or_ge j z.length with h | h
    · rw [List.getElem?_append_left h, Nat.mod_eq_of_lt h]
    · rw [List.getElem?_append_right h, h2 _ (by rw [Nat.succ_mul] at hj; omega), ← Nat.mod_eq_sub_mod h]

theorem zeros_rel {z : List AV} {zc : Array Value} (r : VRs ρ z zc.toList) (n k : Nat) (hz : z.length = k) (hk : 0 < k) :
    VRs ρ (repl n z) ((Array.range (n * k)).map (zc[· % zc.size]!)).toList := by
  obtain ⟨h1, h2⟩ := repl_spec n z
  have hsz : zc.size = k := by have := r.1; simp at this; omega
  refine ⟨by simp [h1, hz], fun j a v ha hv => ?_⟩
  simp only [Array.toList_map, List.getElem?_map, Option.map_eq_some_iff] at hv
  obtain ⟨q, hq, rfl⟩ := hv
  obtain ⟨hlt, hq2⟩ := List.getElem?_eq_some_iff.1 hq
  simp at hlt hq2
  subst hq2
  rw [h2 j (by rw [hz]; exact hlt), hz] at ha
  have hm : j % k < zc.size := by rw [hsz]; exact Nat.mod_lt _ hk
  have : zc[j % zc.size]! = zc[j % k] := by rw [getElem!_pos zc (j % zc.size) (by rw [hsz]; exact Nat.mod_lt _ hk)]; simp [hsz]
  rw [this]
  exact r.2 (j % k) a _ ha (by simp [hm])

theorem foldl_set : ∀ (l : List Value) (off i : Nat) (cs : Array Value), ((l.zipIdx i).foldl (fun cs (p : Value × Nat) => cs.setIfInBounds (off + p.2) p.1) cs).size = cs.size ∧
    ∀ k, off + i + l.length ≤ cs.size → ((l.zipIdx i).foldl (fun cs (p : Value × Nat) => cs.setIfInBounds (off + p.2) p.1) cs)[k]? = if off + i ≤ k ∧ k < off + i + l.length then l[k - (off + i)]? else cs[k]?
  | [], off, i, cs => ⟨rfl, fun k _ => by simp; omega⟩
  | v :: l, off, i, cs => by
    obtain ⟨h1, h2⟩ := foldl_set l off (i + 1) (cs.setIfInBounds (off + i) v)
    simp only [List.zipIdx_cons, List.foldl_cons]
    refine ⟨by rw [h1]; simp, fun k hk => ?_⟩
    simp only [List.length_cons] at hk
    rw [h2 k (by simp; omega), Array.getElem?_setIfInBounds]
    by_cases h4 : k = off + i
    · subst h4
      rw [if_neg (by omega), if_pos rfl, if_pos (by omega), if_pos (by simp)]
      simp
    · by_cases h5 : off + i ≤ k ∧ k < off + i + (l.length + 1)
      · rw [if_pos (by omega), if_pos (by simp; omega)]
        have : k - (off + i) = (k - (off + (i + 1))) + 1 := by omega
        rw [this, List.getElem?_cons_succ]
      · rw [if_neg (by omega), if_neg (fun h => h4 h.symm), if_neg (by simp only [List.length_cons]; omega)]

/-- The parts of a literal, beside the model's. -/
def PR (ρ : Pl) (ps : List (Nat × AV)) (qs : List (Nat × Value)) : Prop := ps.length = qs.length ∧ ∀ (i : Nat) p q, ps[i]? = some p → qs[i]? = some q → p.1 = q.1 ∧ VR ρ p.2 q.2

theorem PR.uncons {ps : List (Nat × AV)} {p : Nat × AV} {qs : List (Nat × Value)} (r : PR ρ (p :: ps) qs) : ∃ v qs', qs = (p.1, v) :: qs' ∧ VR ρ p.2 v ∧ PR ρ ps qs' := by
  cases qs with
  | nil => have := r.1; simp at this
  | cons q qs =>
    obtain ⟨h1, h2⟩ := r.2 0 p q rfl rfl
    exact ⟨q.2, qs, by rw [h1], h2, by simpa using r.1, fun i p q hp hq => r.2 (i + 1) p q (by simpa using hp) (by simpa using hq)⟩

theorem fillA_sound {place cplace : Nat → Option (Nat × Nat)} (hpl : ∀ i p, place i = some p → cplace i = some p) :
    ∀ (ps : List (Nat × AV)) (qs : List (Nat × Value)) (cs l : List AV) (xs : Array Value), PR ρ ps qs → VRs ρ cs xs.toList → fillA place cs ps = some l →
      ∃ ys, Instr.fill cplace xs qs = some ys ∧ VRs ρ l ys.toList
  | [], qs, cs, l, xs, hp, hr, e => by
    simp only [fillA, Option.some.injEq] at e
    subst e
    have : qs = [] := by have := hp.1; cases qs with | nil => rfl | cons => simp at this
    subst this
    exact ⟨xs, rfl, hr⟩
  | (i, a) :: ps, qs, cs, l, xs, hp, hr, e => by
    obtain ⟨v, qs', rfl, hv, hp'⟩ := hp.uncons
    simp only [fillA] at e
    split at e
    · rename_i off size vs hplace hcs
      split at e
      · rename_i hlen
        split at e
        · rename_i cs' hsp
          have hlen' := Nat.eq_of_beq_eq_true hlen
          have hvs := cellsOf_sound hv hcs
          obtain ⟨g1, g2, g3⟩ := splice_spec hsp
          have hsz : v.cells.size = size := by have := hvs.1; simp at this; omega
          have hxs : cs.length = xs.size := by simpa using hr.1
          obtain ⟨f1, f2⟩ := foldl_set v.cells.toList off 0 xs
          have heq : v.cells.zipIdx.foldl (fun cs (c, j) => cs.setIfInBounds (off + j) c) xs = (v.cells.toList.zipIdx 0).foldl (fun cs (p : Value × Nat) => cs.setIfInBounds (off + p.2) p.1) xs := by
            rw [← Array.foldl_toList, Array.toList_zipIdx]
          have hr' : VRs ρ cs' ((v.cells.toList.zipIdx 0).foldl (fun cs (p : Value × Nat) => cs.setIfInBounds (off + p.2) p.1) xs).toList := by
            refine ⟨by simp [g1, f1, hxs], fun k b u hb hu => ?_⟩
            have hu' : ((v.cells.toList.zipIdx 0).foldl (fun cs (p : Value × Nat) => cs.setIfInBounds (off + p.2) p.1) xs)[k]? = some u := by simpa using hu
            rw [f2 k (by simp; omega)] at hu'
            rw [g3 k] at hb
            have hl : vs.length = v.cells.toList.length := hvs.1
            split at hb
            · rename_i hk
              rw [if_pos (by rw [← hl]; omega)] at hu'
              exact hvs.2 _ _ _ hb hu'
            · rename_i hk
              rw [if_neg (by rw [← hl]; omega)] at hu'
              exact hr.2 k _ _ hb (by simpa using hu')
          obtain ⟨ys, k1, k2⟩ := fillA_sound hpl ps qs' cs' l _ hp' hr' e
          refine ⟨ys, ?_, k2⟩
          have hbd : (v.cells.size ≠ size || off + v.cells.size > xs.size) = false := by
            simp [hsz]; omega
          simp only [Instr.fill, hpl i _ hplace, hbd, Bool.false_eq_true, if_false]
          rw [heq]; exact k1
        · cases e
      · cases e
    · cases e

theorem mapM_places : ∀ (fs : List Field) (w : World), allSized P fs = true →
    (fs.mapM fun f => (do pure (f.offset, ← sizeOf f.type) : Sem (Nat × Nat))).run P w = .ok (placesT P fs) w
  | [], w, _ => rfl
  | f :: fs, w, hs => by
    simp only [allSized, List.all_cons, Bool.and_eq_true] at hs
    obtain ⟨i, hi⟩ := Option.isSome_iff_exists.1 hs.1
    have ih := mapM_places fs w hs.2
    simp only [List.mapM_cons, Sem.run_bind, sizeT_run (sizeT_info hi), Result.andThen_ok, Sem.run_pure, ih, placesT, sizeT_info hi, Option.getD_some]

theorem buildA_sound {t : Nat} {ps : List (Nat × AV)} {qs : Array (Nat × Value)} {r : AV} (hp : PR ρ ps qs.toList) (e : buildA P t ps = some r) : Gives P ρ (Instr.build t qs) r := by
  unfold buildA at e
  split at e
  · rename_i z fields hz hu
    obtain ⟨i, zv, hi, hzv, hs⟩ := zeroT_info (ρ := ρ) hz
    split at e
    · rename_i hall
      split at e
      · rename_i l hf
        cases e
        obtain ⟨ys, k1, k2⟩ := fillA_sound (cplace := fun i => (placesT P fields.toList).toArray[i]?) (fun i p h => by simpa using h) ps qs.toList z l zv.cells hp hs hf
        refine ⟨.agg ys, fun w => ?_, .aggA k2⟩
        have hm : (fields.mapM fun f => (do pure (f.offset, ← sizeOf f.type) : Sem (Nat × Nat))).run P w = .ok (placesT P fields.toList).toArray w := by
          rw [Array.mapM_eq_mapM_toList, Sem.run_map, mapM_places fields.toList w hall]
          rfl
        simp only [Instr.build, Sem.run_bind, run_zeroValue_of hi hzv, Result.andThen_ok, run_underlying hu, hm]
        simp only [k1]
        rfl
      · cases e
    · cases e
  · rename_i z len elem hz hu
    obtain ⟨i, zv, hi, hzv, hs⟩ := zeroT_info (ρ := ρ) hz
    split at e
    · rename_i n hn
      split at e
      · rename_i l hf
        cases e
        obtain ⟨ys, k1, k2⟩ := fillA_sound (cplace := fun i => some (i * n, n)) (fun i p h => h) ps qs.toList z l zv.cells hp hs hf
        refine ⟨.agg ys, fun w => ?_, .aggA k2⟩
        simp only [Instr.build, Sem.run_bind, run_zeroValue_of hi hzv, Result.andThen_ok, run_underlying hu, sizeT_run hn, k1]
        rfl
      · cases e
    · cases e
  · cases e

theorem buildSliceA_makes {t len : Nat} {ps : List (Nat × AV)} {qs : Array (Nat × Value)} {b : AB} {mk : Id → AV} (hp : PR ρ ps qs.toList) (e : buildSliceA P t len ps = some (b, mk)) :
    Makes P ρ w (Instr.buildSlice t len qs) b mk := by
  unfold buildSliceA at e
  split at e
  · rename_i elem hu
    split at e
    · rename_i n z hn hz
      obtain ⟨i, zv, hi, hzv, hs⟩ := zeroT_info (ρ := ρ) hz
      split at e
      · rename_i h1 h2 h3
        have h1' := Nat.eq_of_beq_eq_true h1
        have h2' := Nat.le_of_ble_eq_true h2
        rw [Nat.blt_eq] at h3
        split at e
        · rename_i cs hf
          cases e
          have hZ := zeros_rel hs len n h1' h3
          obtain ⟨ys, k1, k2⟩ := fillA_sound (cplace := fun i => some (i * n, n)) (fun i p h => h) ps qs.toList _ cs _ hp hZ hf
          refine makes_cells (x := .slice (some ⟨w.heap.size, 0, none⟩) len len) (el := elem) (fr := (0, 0)) (.inl rfl) ?_ k2 (arr := ys) (fun j hj => by rw [Array.getElem?_toList]) (by simp) (by simp) fun ρ' i hi => VR.slice (o := 0) (len := len) (c := len) hi
          have hb : ¬ (len * n > 2 ^ 24) := by omega
          by_cases h0 : len * n = 0
          · have hE : (Array.range (len * n)).map (fun x => (#[] : Array Value)[x % (#[] : Array Value).size]!) = (Array.range (len * n)).map (zv.cells[· % zv.cells.size]!) := by simp [h0]
            simp only [Instr.buildSlice, Sem.run_bind, run_underlying hu, Result.andThen_ok, sizeT_run hn, hb, if_false, Sem.run_pure, if_pos h0, hE, k1, newRow, run_newObj]
            rfl
          · simp only [Instr.buildSlice, Sem.run_bind, run_underlying hu, Result.andThen_ok, sizeT_run hn, hb, if_false, Sem.run_pure, if_neg h0, run_zeroValue_of hi hzv, k1, newRow, run_newObj]
            rfl
        · cases e
      · cases e
    · cases e
  · cases e

theorem makeSliceA_makes {t : Nat} {l c : AV} {lv cv : Value} {b : AB} {mk : Id → AV} (rl : VR ρ l lv) (rc : VR ρ c cv) (e : makeSliceA P t l c = some (b, mk)) :
    Makes P ρ w (Instr.makeSlice t lv cv) b mk := by
  unfold makeSliceA at e
  split at e
  · rename_i elem hu
    split at e
    · rename_i ln cn info z hl hc hi hz
      obtain ⟨i, zv, hi', hzv, hs⟩ := zeroT_info (ρ := ρ) hz
      rw [hi] at hi'; cases hi'
      obtain ⟨kl, rfl⟩ := natOf_int rl hl
      obtain ⟨kc, rfl⟩ := natOf_int rc hc
      split at e
      · rename_i h1 h2 h3 h4
        have h1' := Nat.le_of_ble_eq_true h1
        have h2' := Nat.le_of_ble_eq_true h2
        have h3' := Nat.le_of_ble_eq_true h3
        have h4' := Nat.eq_of_beq_eq_true h4
        simp only [roomN] at h2' h3'
        split at e
        · rename_i h5
          cases e
          rw [Nat.blt_eq] at h5
          have hZ := zeros_rel hs cn info.size h4' h5
          refine makes_cells (x := .slice (some ⟨w.heap.size, 0, none⟩) ln cn) (el := elem) (fr := (0, 0)) (.inl rfl) ?_ hZ (arr := (Array.range (cn * info.size)).map (zv.cells[· % zv.cells.size]!)) (fun j hj => by rw [Array.getElem?_toList]) (by simp) (by simp) fun ρ' i hi => VR.slice (o := 0) (len := ln) (c := cn) hi
          have wl : IntKind.i64.wrap (ln : Int) = ln := by rw [wrap_i64]; split <;> omega
          have wc : IntKind.i64.wrap (cn : Int) = cn := by rw [wrap_i64]; split <;> omega
          have hbig : ((info.bytes : Int) * (cn : Int) > 2 ^ 48) = False := by
            have : ((info.bytes * cn : Nat) : Int) ≤ 1099511627776 := by omega
            rw [Int.natCast_mul] at this
            simp; omega
          have hc0 : ((cn : Int) < 0) = False := by simp
          have hl0 : ((ln : Int) < 0) = False := by simp
          have hlc : ((ln : Int) > (cn : Int)) = False := by simp; omega
          by_cases h0 : cn * info.size = 0
          · have hE : (Array.range (cn * info.size)).map (fun x => (#[] : Array Value)[x % (#[] : Array Value).size]!) = (Array.range (cn * info.size)).map (zv.cells[· % zv.cells.size]!) := by simp [h0]
            simp only [Instr.makeSlice, Sem.run_bind, run_underlying hu, Result.andThen_ok, asInt, asIntOf, Sem.run_pure, run_typeInfo_of hi, wl, wc, hbig, hc0, hl0, hlc, decide_false, Bool.or_self, Bool.or_false, Bool.false_eq_true, if_false,
              run_askRoom, sizeT_run (sizeT_info hi), Int.toNat_natCast, if_pos h0, hE, newRow, run_newObj]
            rfl
          · simp only [Instr.makeSlice, Sem.run_bind, run_underlying hu, Result.andThen_ok, asInt, asIntOf, Sem.run_pure, run_typeInfo_of hi, wl, wc, hbig, hc0, hl0, hlc, decide_false, Bool.or_self, Bool.or_false, Bool.false_eq_true, if_false,
              run_askRoom, sizeT_run (sizeT_info hi), Int.toNat_natCast, if_neg h0, run_zeroValue_of hi hzv, newRow, run_newObj]
            rfl
        · cases e
      · cases e
    · cases e
  · cases e

end Go.Ab

namespace Go.Ab
open Go.RowKit

variable {P : Program} {n0 : Nat} {w0 : World} {ρ : Pl} {h : AH} {w : World}

/-! ### maps -/

def plainObj : Obj → Bool
  | .cells .. => false
  | _ => true

theorem run_getObj_of {r : Nat} {o : Obj} (e : w.heap[r]? = some o) (hc : plainObj o = true) : (getObj r).run P w = .ok o w := by
  simp only [getObj, Sem.run, e]
  cases o <;> first | rfl | (simp [plainObj] at hc)

theorem run_setObj_of {r : Nat} {o o' : Obj} (e : w.heap[r]? = some o) (hc : plainObj o = true) : (setObj r o').run P w = .ok () (w.setBlock r o') := by
  simp only [setObj, Sem.run, e]
  cases o <;> first | rfl | (simp [plainObj] at hc)

/-- Entries, beside the model's. -/
def EsR (ρ : Pl) (es : List AE) (ces : List MapEntry) : Prop := es.length = ces.length ∧ ∀ (i : Nat) (e : AE) (ce : MapEntry), es[i]? = some e → ces[i]? = some ce → VR ρ e.key ce.key ∧ VR ρ e.val ce.val ∧ ce.born = e.born

theorem EsR.uncons {e : AE} {es : List AE} {ces : List MapEntry} (r : EsR ρ (e :: es) ces) : ∃ ce ces', ces = ce :: ces' ∧ (VR ρ e.key ce.key ∧ VR ρ e.val ce.val ∧ ce.born = e.born) ∧ EsR ρ es ces' := by
  cases ces with
  | nil => have := r.1; simp at this
  | cons ce ces => exact ⟨ce, ces, rfl, r.2 0 e ce rfl rfl, by simpa using r.1, fun i e ce he hc => r.2 (i + 1) e ce (by simpa using he) (by simpa using hc)⟩
theorem EsR.nil_inv {ces : List MapEntry} (r : EsR ρ [] ces) : ces = [] := by
  cases ces with
  | nil => rfl
  | cons => have := r.1; simp at this
theorem EsR.nil : EsR ρ [] [] := ⟨rfl, fun i e ce h => by simp at h⟩
theorem EsR.cons {e : AE} {es : List AE} {ce : MapEntry} {ces : List MapEntry} (h : VR ρ e.key ce.key ∧ VR ρ e.val ce.val ∧ ce.born = e.born) (r : EsR ρ es ces) : EsR ρ (e :: es) (ce :: ces) := by
  refine ⟨by simp [r.1], fun i x cx hx hcx => ?_⟩
  cases i with
  | zero => simp at hx hcx; subst hx; subst hcx; exact h
  | succ i => exact r.2 i x cx (by simpa using hx) (by simpa using hcx)

theorem map_block {r : Id} {es : List AE} {clock : Nat} {pl : Place} (H : HR n0 w0 ρ h w) (hb : h.get r = some (.map es clock)) (hp : ρ r = some pl) :
    ∃ ces : Array MapEntry, w.heap[pl.blk]? = some (.map ces clock) ∧ EsR ρ es ces.toList := by
  obtain ⟨ces, h1, h2, h3⟩ := (H.at hb hp).1
  exact ⟨ces, h1, by simpa using h2, fun i e ce he hc => h3 i e ce he (by simpa using hc)⟩

theorem sameBits_int (k : IntKind) (a : Int) : Instr.sameBits 10000 (.int k a) (.int k a) = true := by
  show (k == k && a == a) = true
  simp

theorem sameKey_sound {d : TypeDesc} {a b : AV} {x y : Value} {q : Bool} (hf : fitsKey d a = true) (ra : VR ρ a x) (rb : VR ρ b y) (e : sameKey a b = some q) :
    Instr.sameNow d x y = some q ∧ (q = true → Instr.sameBits 10000 y x = true) := by
  unfold sameKey at e
  split at e
  · cases ra; cases rb
    split at e
    · rename_i hk
      have := eqK_eq hk
      subst this
      cases e
      cases d <;> simp [fitsKey] at hf
      refine ⟨by simp [Instr.sameNow, eqI_eq], fun hq => ?_⟩
      rw [eqI_eq] at hq
      have hq' := eq_of_beq hq
      subst hq'
      exact sameBits_int _ _
    · cases e
  · cases ra with
    | str h1 =>
    cases rb with
    | str h2 =>
    cases d <;> simp [fitsKey] at hf
    subst h1 h2
    cases e
    rename_i s u
    have he : eqL (bytesOfArr s) (bytesOfArr u) = (s == u) := by rw [beq_toListBytes, ByteArray.toList_eq, ByteArray.toList_eq]; exact eqL_eq _ _
    refine ⟨by simp [Instr.sameNow, he], fun hq => ?_⟩
    rw [he] at hq
    have : s = u := by
      rw [beq_toListBytes, ByteArray.toList_eq, ByteArray.toList_eq] at hq
      have h3 : s.data.toList = u.data.toList := by simpa using hq
      have h4 : s.data = u.data := by
        apply Array.ext'; exact h3
      cases s; cases u; simp at h4; rw [h4]
    subst this
    show (s == s) = true
    rw [beq_toListBytes]; simp
  · cases ra; cases rb
    cases d <;> simp [fitsKey] at hf
    cases e
    rename_i p q
    refine ⟨by cases p <;> cases q <;> rfl, fun hq => by cases p <;> cases q <;> first | rfl | cases hq⟩
  · cases e

theorem findE_sound {d : TypeDesc} {k : AV} {kv : Value} (hf : fitsKey d k = true) (rk : VR ρ k kv) :
    ∀ (es : List AE) (ces : List MapEntry) (i : Nat) (r : Option (Nat × AV)), EsR ρ es ces → findE k es i = some r →
      (r = none → Instr.findNow d kv ces i = some none) ∧
      ∀ j v, r = some (j, v) → ∃ ce, Instr.findNow d kv ces i = some (some (j, ce.val)) ∧ VR ρ v ce.val ∧ i ≤ j ∧ ces[j - i]? = some ce ∧ Instr.sameBits 10000 ce.key kv = true
  | [], ces, i, r, hr, e => by
    rw [hr.nil_inv]
    simp only [findE, Option.some.injEq] at e
    subst e
    exact ⟨fun _ => rfl, fun j v h => (by cases h)⟩
  | x :: es, ces, i, r, hr, e => by
    obtain ⟨ce, ces', rfl, ⟨h1, h2, h3⟩, hr'⟩ := hr.uncons
    simp only [findE] at e
    split at e
    · rename_i hs
      obtain ⟨g1, g2⟩ := sameKey_sound hf rk h1 hs
      cases e
      refine ⟨fun h => (by cases h), fun j v h => ?_⟩
      cases h
      exact ⟨ce, by simp [Instr.findNow, g1], h2, Nat.le_refl _, by simp, g2 rfl⟩
    · rename_i hs
      obtain ⟨g1, _⟩ := sameKey_sound hf rk h1 hs
      obtain ⟨k1, k2⟩ := findE_sound hf rk es ces' (i + 1) r hr' e
      refine ⟨fun h => by simp [Instr.findNow, g1, k1 h], fun j v h => ?_⟩
      obtain ⟨ce', a1, a2, a3, a4, a5⟩ := k2 j v h
      refine ⟨ce', by simp [Instr.findNow, g1, a1], a2, by omega, ?_, a5⟩
      have : j - i = (j - (i + 1)) + 1 := by omega
      rw [this, List.getElem?_cons_succ]; exact a4
    · cases e

theorem checkKey_run {d : TypeDesc} {t : Nat} {k : AV} {kv : Value} (b : Bool) (hf : fitsKey d k = true) (rk : VR ρ k kv) (hd : P.underlying t = some d) : (Instr.checkKey b 10000 t kv).run P w = .ok () w := by
  obtain ⟨n, hn⟩ : ∃ n, (10000 : Nat) = n + 1 := ⟨9999, rfl⟩
  rw [hn]
  simp only [Instr.checkKey, Sem.run_bind, run_underlying hd, Result.andThen_ok]
  cases d <;> simp [fitsKey] at hf
  all_goals (cases k <;> simp at hf; cases rk; rfl)

theorem findKey_run {d : TypeDesc} {t : Nat} {kv : Value} {ces : List MapEntry} {r : Option (Nat × Value)} (hd : P.underlying t = some d) (e : Instr.findNow d kv ces 0 = some r) : (Instr.findKey t kv ces).run P w = .ok r w := by
  simp only [Instr.findKey, Sem.run_bind, run_underlying hd, Result.andThen_ok, e]; rfl

theorem lookupA_sound {t : Nat} {a k r : AV} {x kv : Value} {ok : Bool} (H : HR n0 w0 ρ h w) (ra : VR ρ a x) (rk : VR ρ k kv) (e : lookupA P t a k ok h = some r) :
    ∃ v, (Instr.lookup t x kv ok).run P w = .ok v w ∧ VR ρ r v := by
  unfold lookupA at e
  split at e
  · rename_i key elem hu
    split at e
    · rename_i d hd
      split at e
      · rename_i hf
        simp only at e
        -- the entries
        have key2 : ∀ (es : List AE) (ces : List MapEntry), EsR ρ es ces → (match findE k es 0 with
              | some (some (_, v)) => some (pickB ok (.tup [v, .bool true]) v)
              | some none => match zeroV P elem with
                | some z => some (pickB ok (.tup [z, .bool false]) z)
                | none => none
              | none => none) = some r →
            (∃ j v cv, Instr.findNow d kv ces 0 = some (some (j, cv)) ∧ VR ρ v cv ∧ r = pickB ok (.tup [v, .bool true]) v) ∨
            ∃ z zv i, Instr.findNow d kv ces 0 = some none ∧ P.info? elem = some i ∧ i.zero = some zv ∧ VR ρ z zv ∧ r = pickB ok (.tup [z, .bool false]) z := fun es ces hr e => by
          split at e
          · rename_i j v hfe
            obtain ⟨_, g⟩ := findE_sound hf rk es ces 0 _ hr hfe
            obtain ⟨ce, a1, a2, a3, a4, a5⟩ := g j v rfl
            cases e
            exact .inl ⟨_, _, _, a1, a2, rfl⟩
          · rename_i hfe
            obtain ⟨g, _⟩ := findE_sound hf rk es ces 0 _ hr hfe
            split at e
            · rename_i z hz
              obtain ⟨i, zv, hi, hzv, hs⟩ := zeroV_info (ρ := ρ) hz
              cases e
              exact .inr ⟨_, _, _, g rfl, hi, hzv, hs, rfl⟩
            · cases e
          · cases e
        have pk : ∀ (v : AV) (cv : Value) (q : Bool), VR ρ v cv → VR ρ (pickB ok (.tup [v, .bool q]) v) (if ok then .tuple #[cv, .bool q] else cv) := fun v cv q hv => by
          cases ok with
          | true => exact .tupL (.cons hv (.cons (.bool q) (.nil ρ)))
          | false => exact hv
        split at e
        · rename_i es hes
          split at hes
          · cases hes
            cases ra
            rcases key2 [] [] .nil e with ⟨j, v, cv, g1, g2, rfl⟩ | ⟨z, zv, i, g1, g2, g3, g4, rfl⟩
            · refine ⟨_, ?_, pk v cv true g2⟩
              simp only [Instr.lookup, Sem.run_bind, run_underlying hu, Result.andThen_ok, Sem.run_pure, checkKey_run _ hf rk hd, findKey_run hd g1]
            · refine ⟨_, ?_, pk z zv false g4⟩
              simp only [Instr.lookup, Sem.run_bind, run_underlying hu, Result.andThen_ok, Sem.run_pure, checkKey_run _ hf rk hd, findKey_run hd g1, run_zeroValue_of g2 g3]
          · rename_i m
            split at hes
            · rename_i es' clock hg
              cases hes
              cases ra with
              | map hp =>
              obtain ⟨ces, b1, b2⟩ := map_block H hg hp
              rcases key2 _ _ b2 e with ⟨j, v, cv, g1, g2, rfl⟩ | ⟨z, zv, i, g1, g2, g3, g4, rfl⟩
              · refine ⟨_, ?_, pk v cv true g2⟩
                simp only [Instr.lookup, Sem.run_bind, run_underlying hu, Result.andThen_ok, Sem.run_pure, run_getObj_of b1 rfl, checkKey_run _ hf rk hd, findKey_run hd g1]
              · refine ⟨_, ?_, pk z zv false g4⟩
                simp only [Instr.lookup, Sem.run_bind, run_underlying hu, Result.andThen_ok, Sem.run_pure, run_getObj_of b1 rfl, checkKey_run _ hf rk hd, findKey_run hd g1, run_zeroValue_of g2 g3]
            · cases hes
          · cases hes
        · cases e
      · cases e
    · cases e
  · cases e

theorem setAtE_sound {k v : AV} {kv vv : Value} (rk : VR ρ k kv) (rv : VR ρ v vv) : ∀ (es : List AE) (ces : List MapEntry) (i : Nat), EsR ρ es ces → EsR ρ (setAtE es i k v) (ces.modify i fun e => { e with key := kv, val := vv })
  | [], ces, i, r => by rw [r.nil_inv]; simpa [setAtE] using EsR.nil
  | e :: es, ces, 0, r => by
    obtain ⟨ce, ces', rfl, ⟨h1, h2, h3⟩, hr⟩ := r.uncons
    exact .cons ⟨rk, rv, h3⟩ hr
  | e :: es, ces, i + 1, r => by
    obtain ⟨ce, ces', rfl, h1, hr⟩ := r.uncons
    exact .cons h1 (setAtE_sound rk rv es ces' i hr)

theorem dropAtE_sound : ∀ (es : List AE) (ces : List MapEntry) (i : Nat), EsR ρ es ces → EsR ρ (dropAtE es i) (ces.eraseIdx i)
  | [], ces, i, r => by rw [r.nil_inv]; simpa [dropAtE] using EsR.nil
  | e :: es, ces, 0, r => by
    obtain ⟨ce, ces', rfl, h1, hr⟩ := r.uncons
    simpa [dropAtE] using hr
  | e :: es, ces, i + 1, r => by
    obtain ⟨ce, ces', rfl, h1, hr⟩ := r.uncons
    exact .cons h1 (dropAtE_sound es ces' i hr)

theorem EsR.append_one {es : List AE} {ces : List MapEntry} {e : AE} {ce : MapEntry} (r : EsR ρ es ces) (h : VR ρ e.key ce.key ∧ VR ρ e.val ce.val ∧ ce.born = e.born) : EsR ρ (es ++ [e]) (ces ++ [ce]) := by
  induction es generalizing ces with
  | nil => rw [r.nil_inv]; exact .cons h .nil
  | cons x es ih =>
    obtain ⟨cx, ces', rfl, h1, hr⟩ := r.uncons
    exact .cons h1 (ih hr)

theorem BR.ofMap {pl : Place} {es : List AE} {clock : Nat} {ces : Array MapEntry} (hb : w.heap[pl.blk]? = some (.map ces clock)) (r : EsR ρ es ces.toList) : BR ρ w pl (.map es clock) :=
  ⟨ces, hb, by simpa using r.1, fun i e ce he hc => r.2 i e ce he (by simpa using hc)⟩

theorem keyStays_run {old new : Value} (e : Instr.sameBits 10000 old new = true) : (Instr.keyThatStays old new).run P w = .ok new w := by
  simp [Instr.keyThatStays, e]

theorem mapUpdateA_sound {t : Nat} {a k v : AV} {x kv vv : Value} {h' : AH} (H : HR n0 w0 ρ h w) (ra : VR ρ a x) (rk : VR ρ k kv) (rv : VR ρ v vv) (e : mapUpdateA P t a k v h = some h') :
    ∃ w', (Instr.mapUpdate t x kv vv).run P w = .ok () w' ∧ HR n0 w0 ρ h' w' ∧ Goes ρ h w ρ h' w' := by
  unfold mapUpdateA at e
  split at e
  · rename_i key elem r hu
    cases ra with
    | map hp =>
    rename_i pl
    split at e
    · rename_i d hd
      split at e
      · rename_i es clock hf hg
        obtain ⟨ces, b1, b2⟩ := map_block H hg hp
        have hk : pl.blk < w.heap.size := H.lt _ _ hp
        split at e
        · rename_i i v' hfe
          obtain ⟨_, g⟩ := findE_sound hf rk es _ 0 _ b2 hfe
          obtain ⟨ce, a1, a2, a3, a4, a5⟩ := g i v' rfl
          cases e
          have T := H.turn (o := .map (ces.modify i fun e => { e with key := kv, val := vv }) clock) (b' := .map (setAtE es i k v) clock) hg hp rfl
            (BR.ofMap (setBlock_same hk) (by simpa using setAtE_sound rk rv es _ i b2))
          refine ⟨_, ?_, T.1, T.2⟩
          have a4' : ces[i]? = some ce := by simpa using a4
          simp only [Instr.mapUpdate, Sem.run_bind, run_underlying hu, Result.andThen_ok, run_getObj_of b1 rfl, checkKey_run _ hf rk hd, findKey_run hd a1, a4', Option.map_some, Option.getD_some, keyStays_run a5, run_setObj_of b1 rfl]
        · rename_i hfe
          obtain ⟨g, _⟩ := findE_sound hf rk es _ 0 _ b2 hfe
          cases e
          have T := H.turn (o := .map (ces.push { key := kv, val := vv, born := clock }) (clock + 1)) (b' := .map (es ++ [⟨k, v, clock⟩]) (clock + 1)) hg hp rfl
            (BR.ofMap (setBlock_same hk) (by simpa using b2.append_one ⟨rk, rv, rfl⟩))
          refine ⟨_, ?_, T.1, T.2⟩
          simp only [Instr.mapUpdate, Sem.run_bind, run_underlying hu, Result.andThen_ok, run_getObj_of b1 rfl, checkKey_run _ hf rk hd, findKey_run hd (g rfl), run_setObj_of b1 rfl]
        · cases e
      · cases e
    · cases e
  · cases e

theorem deleteA_sound {t : Nat} {a k : AV} {x kv : Value} {h' : AH} (ts : Array TypeId) (args : Array Value) (ty : Nat) (H : HR n0 w0 ρ h w) (h0 : ts[0]? = some t) (h1 : args[0]? = some x) (h2 : args[1]? = some kv)
    (ra : VR ρ a x) (rk : VR ρ k kv) (e : deleteA P t a k h = some h') : ∃ w', (Builtin.delete_ ts ty args).run P w = .ok (.tuple #[]) w' ∧ HR n0 w0 ρ h' w' ∧ Goes ρ h w ρ h' w' := by
  unfold deleteA at e
  split at e
  · rename_i key elem hu
    cases ra
    split at e
    · rename_i d hd
      split at e
      · rename_i hf
        cases e
        refine ⟨w, ?_, H, .refl ρ _ w⟩
        simp only [Builtin.delete_, h0, h1, h2, Sem.run_bind, run_underlying hu, Result.andThen_ok, checkKey_run _ hf rk hd, Sem.run_pure]
      · cases e
    · cases e
  · rename_i key elem r hu
    cases ra with
    | map hp =>
    rename_i pl
    split at e
    · rename_i d hd
      split at e
      · rename_i es clock hf hg
        obtain ⟨ces, b1, b2⟩ := map_block H hg hp
        have hk : pl.blk < w.heap.size := H.lt _ _ hp
        split at e
        · rename_i i v' hfe
          obtain ⟨_, g⟩ := findE_sound hf rk es _ 0 _ b2 hfe
          obtain ⟨ce, a1, a2, a3, a4, a5⟩ := g i v' rfl
          cases e
          have hlt : i < ces.size := by
            have := (List.getElem?_eq_some_iff.1 a4).1
            simpa using this
          have T := H.turn (o := .map (ces.eraseIdxIfInBounds i) clock) (b' := .map (dropAtE es i) clock) hg hp rfl
            (BR.ofMap (setBlock_same hk) (by simpa [Array.eraseIdxIfInBounds, hlt] using dropAtE_sound es _ i b2))
          refine ⟨_, ?_, T.1, T.2⟩
          simp only [Builtin.delete_, h0, h1, h2, Sem.run_bind, run_underlying hu, Result.andThen_ok, run_getObj_of b1 rfl, checkKey_run _ hf rk hd, findKey_run hd a1, run_setObj_of b1 rfl, Sem.run_pure]
        · rename_i hfe
          obtain ⟨g, _⟩ := findE_sound hf rk es _ 0 _ b2 hfe
          cases e
          have hsame : w.setBlock pl.blk (.map ces clock) = w := by
            unfold World.setBlock
            have : w.heap.setIfInBounds pl.blk (.map ces clock) = w.heap := by
              apply Array.ext_getElem?
              intro j
              rw [Array.getElem?_setIfInBounds]
              split
              · rename_i h; subst h
                have hb' : w.heap[pl.blk] = .map ces clock := by simpa [hk] using b1
                simp [hk, hb']
              · rfl
            rw [this]
          refine ⟨w, ?_, H, .refl ρ _ w⟩
          simp only [Builtin.delete_, h0, h1, h2, Sem.run_bind, run_underlying hu, Result.andThen_ok, run_getObj_of b1 rfl, checkKey_run _ hf rk hd, findKey_run hd (g rfl), run_setObj_of b1 rfl, Sem.run_pure, hsame]
        · cases e
      · cases e
    · cases e
  · cases e

end Go.Ab
