import Derived.Test.YtoobfpnphhcaoaaGreatDoorT07
import Derived.Scope
import Derived.Orders
import Derived.Test.YtoobfpnphhcaoaaGreatDoorT04
set_option linter.unusedVariables false
set_option linter.unusedSimpArgs false
namespace Go.Ab
open Go.RowKit

variable {P : Program} {n0 : Nat} {w0 : World} {ρ : Pl} {h : AH} {w : World}

/-- What one operation does beside the abstract one. -/
def RanN (P : Program) (n0 : Nat) (w0 : World) (ρ : Pl) (h : AH) (s : Sem Next) (w : World) (a : AV) (h' : AH) : Prop :=
  ∃ nx x w' ρ', s.run P w = .ok nx w' ∧ (nx = .value x ∨ nx = .skip ∧ x = Go.undef) ∧ VR ρ' a x ∧ Goes ρ h w ρ' h' w' ∧ HR n0 w0 ρ' h' w'

theorem Ran.next {s : Sem Value} {a : AV} {h' : AH} (r : Ran P n0 w0 ρ h s w a h') : RanN P n0 w0 ρ h (do pure (Next.value (← s))) w a h' := by
  obtain ⟨x, w', ρ', h1, h2, h3, h4⟩ := r
  exact ⟨.value x, x, w', ρ', by simp [h1], .inl rfl, h2, h3, h4⟩

theorem Gives.next {s : Sem Value} {a : AV} (g : Gives P ρ s a) (H : HR n0 w0 ρ h w) : RanN P n0 w0 ρ h (do Pure.pure (Next.value (← s))) w a h := (g.ran H).next

theorem next_read {s : Sem Value} {a : AV} {x : Value} (H : HR n0 w0 ρ h w) (h1 : s.run P w = .ok x w) (r : VR ρ a x) : RanN P n0 w0 ρ h (do pure (Next.value (← s))) w a h :=
  Ran.next ⟨x, w, ρ, h1, r, .refl ρ h w, H⟩

theorem next_unit {s : Sem Unit} {w' : World} {h' : AH} (h1 : s.run P w = .ok () w') (H : HR n0 w0 ρ h' w') (G : Goes ρ h w ρ h' w') : RanN P n0 w0 ρ h (do s; pure Next.skip) w .undef h' :=
  ⟨.skip, Go.undef, w', ρ, by simp [h1], .inr ⟨rfl, rfl⟩, .undef ρ, G, H⟩

theorem next_pure {x : Value} {a : AV} (H : HR n0 w0 ρ h w) (r : VR ρ a x) : RanN P n0 w0 ρ h (pure (.value x)) w a h :=
  ⟨.value x, x, w, ρ, rfl, .inl rfl, r, .refl ρ h w, H⟩

theorem ok1_some {r : Option AV} {v : AV} {h' : AH} (e : ok1 h r = some (v, h')) : r = some v ∧ h' = h := by
  cases r with
  | none => simp [ok1] at e
  | some x => simp only [ok1, Option.some.injEq, Prod.mk.injEq] at e; exact ⟨by rw [e.1], e.2.symm⟩

theorem okU_some {r : Option AH} {v : AV} {h' : AH} (e : okU r = some (v, h')) : r = some h' ∧ v = .undef := by
  cases r with
  | none => simp [okU] at e
  | some x => simp only [okU, Option.some.injEq, Prod.mk.injEq] at e; exact ⟨by rw [e.2], e.1.symm⟩

theorem arg0 {args : List AV} {vs : Array Value} {a : AV} {l : List AV} (r : VRs ρ args vs.toList) (e : args = a :: l) : ∃ v, vs[0]? = some v ∧ VR ρ a v ∧ VRs ρ l vs.toList.tail := by
  subst e
  obtain ⟨v, ws, h1, h2, h3⟩ := r.uncons
  refine ⟨v, ?_, h2, by rw [h1]; exact h3⟩
  have : vs.toList[0]? = some v := by rw [h1]; rfl
  simpa using this

theorem arg1 {args : List AV} {vs : Array Value} {a b : AV} {l : List AV} (r : VRs ρ args vs.toList) (e : args = a :: b :: l) : ∃ x y, vs[0]? = some x ∧ vs[1]? = some y ∧ VR ρ a x ∧ VR ρ b y := by
  subst e
  obtain ⟨v, ws, h1, h2, h3⟩ := r.uncons
  obtain ⟨u, us, h4, h5, h6⟩ := h3.uncons
  refine ⟨v, u, ?_, ?_, h2, h5⟩
  · have : vs.toList[0]? = some v := by rw [h1]; rfl
    simpa using this
  · have : vs.toList[1]? = some u := by rw [h1, h4]; rfl
    simpa using this

theorem ty0 {ts : Array TypeId} {t : Nat} {l : List Nat} (e : ts.toList = t :: l) : ts[0]? = some t := by
  have : ts.toList[0]? = some t := by rw [e]; rfl
  simpa using this
theorem ty1 {ts : Array TypeId} {t u : Nat} {l : List Nat} (e : ts.toList = t :: u :: l) : ts[1]? = some u := by
  have : ts.toList[1]? = some u := by rw [e]; rfl
  simpa using this

theorem builtinA_sound {b : Builtin} {ts : Array TypeId} {args : List AV} {vs : Array Value} {ty : Nat} {cs : Array Bool} {r : AV} {h' : AH} (H : HR n0 w0 ρ h w) (ra : VRs ρ args vs.toList) (e : builtinA P b ts.toList args h = some (r, h')) :
    RanN P n0 w0 ρ h (builtin b ts ty cs vs) w r h' := by
  unfold builtinA at e
  split at e <;> try (cases e; done)
  · rename_i t u l1 s x l2 h1
    obtain ⟨sv, xv, b0, b1, r1, r2⟩ := arg1 ra rfl
    exact (appendA_sound H (ty0 h1) (ty1 h1) b0 b1 r1 r2 e).next
  · rename_i t l1 x l2 h1
    obtain ⟨xv, b0, r1, _⟩ := arg0 ra rfl
    obtain ⟨e1, rfl⟩ := ok1_some e
    obtain ⟨v, k1, k2⟩ := lenA_sound (P := P) (ty := ty) H (ty0 h1) b0 r1 e1
    exact next_read H k1 k2
  · rename_i t l1 x l2 h1
    obtain ⟨xv, b0, r1, _⟩ := arg0 ra rfl
    obtain ⟨e1, rfl⟩ := ok1_some e
    exact (capA_sound (P := P) (ty := ty) (ty0 h1) b0 r1 e1).next H
  · rename_i t l1 d x l2 h1
    obtain ⟨sv, xv, b0, b1, r1, r2⟩ := arg1 ra rfl
    exact (copyA_sound H (ty0 h1) b0 b1 r1 r2 e).next
  · rename_i t l1 m k l2 h1
    obtain ⟨mv, kv, b0, b1, r1, r2⟩ := arg1 ra rfl
    obtain ⟨e1, rfl⟩ := okU_some e
    obtain ⟨w', k1, k2, k3⟩ := deleteA_sound (P := P) ts vs ty H (ty0 h1) b0 b1 r1 r2 e1
    exact Ran.next ⟨_, w', ρ, k1, .undef ρ, k3, k2⟩
  · rename_i t l1 x l2 h1
    obtain ⟨xv, b0, r1, _⟩ := arg0 ra rfl
    obtain ⟨e1, rfl⟩ := okU_some e
    obtain ⟨w', k1, k2, k3⟩ := clearA_sound (P := P) (ty := ty) H (ty0 h1) b0 r1 e1
    exact Ran.next ⟨_, w', ρ, k1, .undef ρ, k3, k2⟩
  · rename_i x l
    obtain ⟨e1, rfl⟩ := ok1_some e
    obtain ⟨v, ws, h1, h2, h3⟩ := ra.uncons
    have := minmaxA_sound (P := P) l x _ v ws h2 h3 e1
    have hm : Builtin.max_ ts ty vs = ws.foldlM Builtin.max2 v := by simp only [Builtin.max_, h1]
    show RanN P n0 w0 ρ h' (do pure (Next.value (← Builtin.max_ ts ty vs))) w r h'
    rw [hm]; exact Gives.next (by simpa using this) H
  · rename_i x l
    obtain ⟨e1, rfl⟩ := ok1_some e
    obtain ⟨v, ws, h1, h2, h3⟩ := ra.uncons
    have := minmaxA_sound (P := P) l x _ v ws h2 h3 e1
    have hm : Builtin.min_ ts ty vs = ws.foldlM Builtin.min2 v := by simp only [Builtin.min_, h1]
    show RanN P n0 w0 ρ h' (do pure (Next.value (← Builtin.min_ ts ty vs))) w r h'
    rw [hm]; exact Gives.next (by simpa using this) H

theorem parts_sound {n : Nat} {e : Env} {a : Act} (E : ER ρ n e a.tmps) (ps : Array (Nat × Operand)) : PR ρ (ps.toList.map fun p => (p.1, opv e p.2)) (ps.map fun (i, x) => (i, a.eval x)).toList := by
  refine ⟨by simp, fun i p q hp hq => ?_⟩
  simp only [Array.toList_map, List.getElem?_map, Option.map_eq_some_iff] at hp hq
  obtain ⟨x, hx, rfl⟩ := hp
  obtain ⟨y, hy, rfl⟩ := hq
  rw [hx] at hy; cases hy
  exact ⟨rfl, opv_sound E _⟩

theorem or_sound {n : Nat} {e : Env} {a : Act} (E : ER ρ n e a.tmps) (x : Option Operand) : OR ρ (x.map (opv e)) (x.map a.eval) := by
  cases x with
  | none => exact .inl ⟨rfl, rfl⟩
  | some x => exact .inr ⟨_, _, rfl, rfl, opv_sound E x⟩

/-- One operation that makes a block. -/
def MakesN (P : Program) (ρ : Pl) (w : World) (s : Sem Next) (b : AB) (mk : Id → AV) : Prop :=
  ∃ x wd o sh ce, (wd = w ∨ wd = w.drew) ∧ s.run P w = .ok (.value x) (wd.alloc o) ∧ b.owned = true ∧
    ∀ ρ' i, Ext ρ ρ' → ρ' i = some ⟨w.heap.size, sh, ce⟩ → VR ρ' (mk i) x ∧ BR ρ' (wd.alloc o) ⟨w.heap.size, sh, ce⟩ b

theorem Makes.next {s : Sem Value} {b : AB} {mk : Id → AV} (M : Makes P ρ w s b mk) : MakesN P ρ w (do pure (Next.value (← s))) b mk := by
  obtain ⟨x, wd, o, sh, ce, hwd, hrun, hM⟩ := M
  exact ⟨x, wd, o, sh, ce, hwd, by simp only [Sem.run_bind, hrun, Result.andThen_ok, Sem.run_pure], hM⟩

theorem MakesN.ran {s : Sem Next} {b : AB} {mk : Id → AV} {r : AV} {h' : AH} (M : MakesN P ρ w s b mk) (H : HR n0 w0 ρ h w) (e : newB h (some (b, mk)) = some (r, h')) : RanN P n0 w0 ρ h s w r h' := by
  obtain ⟨x, wd, o, sh, ce, hwd, hrun, _, hM⟩ := M
  simp only [newB] at e
  split at e <;> try (cases e; done)
  rename_i i h1 hn
  cases e
  have Hd : HR n0 w0 ρ h wd := by rcases hwd with rfl | rfl; exact H; exact H.drew
  have hsz : wd.heap.size = w.heap.size := by rcases hwd with rfl | rfl <;> rfl
  have hfree : ρ i = none := by obtain ⟨rfl, _⟩ := AH.new_spec hn; exact H.fresh _ (Nat.le_refl _)
  obtain ⟨k1, k2⟩ := hM (ρ.with i ⟨w.heap.size, sh, ce⟩) i (Pl.with_ext _ hfree) (Pl.with_same ρ i _)
  obtain ⟨k3, k4, _⟩ := Hd.new hn ⟨w.heap.size, sh, ce⟩ hsz.symm k2
  have G : Goes ρ h w ρ h wd := by rcases hwd with rfl | rfl; exact .refl ρ h _; exact (Goes.refl ρ h w).drew
  exact ⟨.value x, x, _, _, hrun, .inl rfl, k1, G.trans k4, k3⟩

theorem makeA_sound {n : Nat} {e : Env} {a : Act} {o : Oper} {b : AB} {mk : Id → AV} (E : ER ρ n e a.tmps) (he : makeA P o.op e = some (b, mk)) : MakesN P ρ w (execOp a.eval o) b mk := by
  obtain ⟨dst, op, ty, pos, after, guard⟩ := o
  simp only at he
  unfold makeA at he
  split at he <;> try (cases he; done)
  · split at he <;> try (cases he; done)
    rename_i hz
    cases he
    exact (alloc_makes hz).next
  · split at he <;> try (cases he; done)
    rename_i hc
    cases he
    exact (box_makes (opv_sound E _) hc).next
  · exact (buildSliceA_makes (parts_sound E _) he).next
  · rename_i t r
    split at he <;> try (cases he; done)
    · rename_i k el hu
      cases he
      exact (makeMap_makes hu none (fun v hv => by cases hv)).next
    · rename_i k el x hu
      have hx := opv_sound E x
      split at he <;> try (cases he; done)
      rename_i kk nn hb
      rw [hb] at hx
      cases he
      refine (makeMap_makes hu (some (a.eval x)) (fun v hv => ?_)).next
      cases hv
      generalize hxv : a.eval x = xv at hx
      cases hx
      exact ⟨_, _, rfl⟩
  · exact (makeSliceA_makes (opv_sound E _) (opv_sound E _) he).next
  · exact (toBytesA_makes (opv_sound E _) he).next

theorem newA_sound {n : Nat} {e : Env} {a : Act} {o : Oper} {v : AV} {h' : AH} (H : HR n0 w0 ρ h w) (E : ER ρ n e a.tmps) (he : newB h (makeA P o.op e) = some (v, h')) : RanN P n0 w0 ρ h (execOp a.eval o) w v h' := by
  obtain ⟨b, mk, hm⟩ := newB_some he
  rw [hm] at he
  exact (makeA_sound E hm).ran H he

def Sub' (h h2 : AH) : Prop := ∀ j b, h.get j = some b → h2.get j = some b

theorem freeze_setBlock {k n : Nat} {cs : Array Value} {e : TypeId} {fr : Nat × Nat} (hb : w.heap[k]? = some (.cells cs e fr)) :
    w.freeze ⟨k, n, none⟩ 1 = w.setBlock k (.cells cs e (if fr.1 == fr.2 then (n, n + 1) else (min fr.1 n, max fr.2 (n + 1)))) := by
  obtain ⟨lo, hi⟩ := fr
  unfold World.freeze World.setBlock
  rw [if_neg (by decide)]
  congr 1
  apply Array.ext_getElem?
  intro j
  rw [Array.getElem?_modify, Array.getElem?_setIfInBounds]
  obtain ⟨hlt, hget⟩ := Array.getElem?_eq_some_iff.1 hb
  by_cases hj : k = j
  · subst hj
    rw [if_pos rfl, if_pos rfl, hb, if_pos hlt]
    rfl
  · rw [if_neg hj, if_neg hj]

theorem sameSliceA_sound {s d : Nat} {a r : AV} {x : Value} {h' : AH} (H : HR n0 w0 ρ h w) (ra : VR ρ a x) (e : sameSliceA P s d a h = some (r, h')) : Ran P n0 w0 ρ h (convert s d x) w r h' := by
  unfold sameSliceA at e
  split at e <;> try (cases e; done)
  rename_i el b o len cap hsd hd
  split at e <;> try (cases e; done)
  rename_i vs hel hb
  cases e
  have hsd' := Nat.eq_of_beq_eq_true hsd
  subst hsd'
  obtain ⟨ad, C, pl, A⟩ := slice_at ra
  have hp := A.at_
  have had : ad = ⟨pl.blk, pl.sh + o, none⟩ := by
    rcases A.adr with g | ⟨g, _⟩
    · exact g
    · omega
  obtain ⟨⟨cs, et, fr, b1, b2, b3, b4, b5⟩, hown⟩ := H.at hb hp
  have hk : pl.blk < w.heap.size := H.lt _ _ hp
  have hsh : w.shape? ad.block = some (et, cs.size) := by
    unfold World.shape?
    rw [had]
    simp only [b1]
  have hx := A.val
  have hfz := freeze_setBlock (n := cs.size) b1
  have hrun : (convert s s x).run P w = .ok x (w.setBlock pl.blk (.cells cs et (if fr.1 == fr.2 then (cs.size, cs.size + 1) else (min fr.1 cs.size, max fr.2 (cs.size + 1))))) := by
    rw [hx, ← hfz]
    simp only [convert, Sem.run_bind, run_underlying hd, Result.andThen_ok, run_underlying hel, markStringish, run_shape, hsh, run_freeze, Sem.run_pure, beq_self_eq_true]
    rw [had]
  obtain ⟨T1, T2⟩ := H.turn (b' := .cells true vs) (o := .cells cs et (if fr.1 == fr.2 then (cs.size, cs.size + 1) else (min fr.1 cs.size, max fr.2 (cs.size + 1)))) hb hp rfl
    ⟨cs, et, _, setBlock_same hk, b2, b3, b4, fun _ => by
      have := b5 rfl
      by_cases hf : fr.1 = fr.2
      · simp [hf]
      · rw [if_neg (by simpa using hf)]
        right
        simp only
        omega⟩
  have hsub : Sub' h (h.set b (some (.cells true vs))) := fun j bj hj => by
    rw [AH.get_set]
    by_cases hjb : j = b
    · rw [if_pos hjb]; rw [hjb] at hj; rw [hb] at hj; exact hj
    · rw [if_neg hjb]; exact hj
  have hn : h.next = (h.set b (some (.cells true vs))).next := (AH.next_set h b _).symm
  exact ⟨x, _, ρ, hrun, ra, ⟨T2.ext, T2.size, Nat.le_refl _, T2.frame, fun i bi hi => T2.img i bi (hsub i bi hi), T2.grows⟩, T1.sub hsub hn⟩

theorem opA_sound {n : Nat} {e : Env} {a : Act} {o : Oper} {v : AV} {h' : AH} (H : HR n0 w0 ρ h w) (E : ER ρ n e a.tmps) (he : opA P o.op e h = some (v, h')) : RanN P n0 w0 ρ h (execOp a.eval o) w v h' := by
  obtain ⟨dst, op, ty, pos, after, guard⟩ := o
  simp only at he
  unfold opA at he
  split at he
  · cases he; exact next_pure H (opv_sound E _)
  · cases he; exact next_pure H (opv_sound E _)
  · rename_i c x y
    have hc := opv_sound E c
    split at he <;> try (cases he; done)
    · rename_i hb
      rw [hb] at hc
      cases he
      generalize hcv : a.eval c = cv at hc
      cases hc
      refine ⟨.value (a.eval x), a.eval x, w, ρ, ?_, .inl rfl, opv_sound E x, .refl ρ h w, H⟩
      simp only [execOp, hcv]; rfl
    · rename_i hb
      rw [hb] at hc
      cases he
      generalize hcv : a.eval c = cv at hc
      cases hc
      refine ⟨.value (a.eval y), a.eval y, w, ρ, ?_, .inl rfl, opv_sound E y, .refl ρ h w, H⟩
      simp only [execOp, hcv]; rfl
  · rename_i t
    exact newA_sound (o := ⟨dst, .alloc t, ty, pos, after, guard⟩) H E he
  · rename_i t x
    exact newA_sound (o := ⟨dst, .box t x, ty, pos, after, guard⟩) H E he
  · obtain ⟨e1, rfl⟩ := ok1_some he
    exact (buildA_sound (parts_sound E _) e1).next H
  · rename_i t len ps
    exact newA_sound (o := ⟨dst, .buildSlice t len ps, ty, pos, after, guard⟩) H E he
  · rename_i t x
    have hx := opv_sound E x
    split at he <;> try (cases he; done)
    rename_i b off hb
    rw [hb] at hx
    obtain ⟨e1, rfl⟩ := ok1_some he
    generalize hxv : a.eval x = xv at hx
    cases hx with
    | ptr hp =>
    obtain ⟨y, k1, k2⟩ := loadV_run (P := P) H e1 hp
    have : execOp a.eval ⟨dst, .load t x, ty, pos, after, guard⟩ = (do pure (Next.value (← Instr.loadAt t (a.eval x))) : Sem Next) := rfl
    rw [this, hxv]
    refine next_read H ?_ k2
    simp only [Instr.loadAt, Instr.sureAddr, Sem.run_bind, Sem.run_pure, Result.andThen_ok, k1]
  · rename_i t x y
    have hx := opv_sound E x
    split at he <;> try (cases he; done)
    rename_i b off hb
    rw [hb] at hx
    obtain ⟨e1, rfl⟩ := okU_some he
    generalize hxv : a.eval x = xv at hx
    cases hx with
    | ptr hp =>
    obtain ⟨w', k1, k2, k3⟩ := storeV_run (P := P) H e1 hp (opv_sound E y)
    have : execOp a.eval ⟨dst, .store t x y, ty, pos, after, guard⟩ = (do Instr.storeAt t (a.eval x) (a.eval y); pure Next.skip : Sem Next) := rfl
    rw [this, hxv]
    refine next_unit ?_ k2 k3
    simp only [Instr.storeAt, Instr.sureAddr, Sem.run_bind, Sem.run_pure, Result.andThen_ok, k1]
  · rename_i x
    obtain ⟨e1, rfl⟩ := ok1_some he
    obtain ⟨k1, k2⟩ := nilCheckA_sound (P := P) (o := ⟨dst, .nilCheck x, ty, pos, after, guard⟩) rfl rfl (opv_sound E x) e1
    exact ⟨.value (a.eval x), a.eval x, w, ρ, k2 w, .inl rfl, k1, .refl ρ _ w, H⟩
  · obtain ⟨e1, rfl⟩ := ok1_some he
    exact (binOpA_sound _ _ (opv_sound E _) (opv_sound E _) e1).next H
  · obtain ⟨e1, rfl⟩ := ok1_some he
    exact (unOpA_sound (opv_sound E _) e1).next H
  · rename_i s d x
    split at he
    · split at he
      · exact (sameSliceA_sound H (opv_sound E _) he).next
      · exact newA_sound (o := ⟨dst, .convert s d x, ty, pos, after, guard⟩) H E he
    · obtain ⟨e1, rfl⟩ := ok1_some he
      exact (convertA_sound H (opv_sound E _) e1).next
  · rename_i t x
    have hx := opv_sound E x
    split at he <;> try (cases he; done)
    rename_i m el b off len cap hu hb
    rw [hb] at hx
    split at he <;> try (cases he; done)
    rename_i h1 h2
    cases he
    have h1' := Nat.le_of_ble_eq_true h1
    rw [Nat.blt_eq] at h2
    obtain ⟨ad, C, pl, A⟩ := slice_at hx
    have had : ad = ⟨pl.blk, pl.sh + off, none⟩ := by
      rcases A.adr with g | ⟨g, _⟩
      · exact g
      · omega
    refine Gives.next (s := Instr.arrayAt t (a.eval x)) ⟨.pointer (some ad), fun w => ?_, by rw [had]; exact .ptr A.at_⟩ H
    have hlt : ¬ len < m := by omega
    simp only [Instr.arrayAt, Sem.run_bind, run_underlying hu, Result.andThen_ok, A.val, hlt, if_false]; rfl
  · rename_i t x
    split at he <;> try (cases he; done)
    rename_i d hni hu
    cases he
    refine Gives.next (s := Instr.makeInterface t (a.eval x)) ⟨.iface t (a.eval x), fun w => ?_, .iface (opv_sound E x)⟩ H
    simp only [Instr.makeInterface, Sem.run_bind, run_underlying hu, Result.andThen_ok]
    cases d <;> first | rfl | exact (hni _ hu).elim
  · rename_i f first cap
    cases he
    exact Gives.next (s := Instr.makeFunc (.func f) (first.map a.eval) (cap.map a.eval)) ⟨_, fun w => rfl, .fnA (opvs_sound E first) (opvs_sound E cap)⟩ H
  · rename_i t r
    exact newA_sound (o := ⟨dst, .makeMap t r, ty, pos, after, guard⟩) H E he
  · rename_i t l c
    exact newA_sound (o := ⟨dst, .makeSlice t l c, ty, pos, after, guard⟩) H E he
  · obtain ⟨e1, rfl⟩ := ok1_some he
    exact (sliceA_sound (opv_sound E _) (or_sound E _) (or_sound E _) (or_sound E _) e1).next H
  · obtain ⟨e1, rfl⟩ := ok1_some he
    exact (fieldAddrA_sound (opv_sound E _) e1).next H
  · obtain ⟨e1, rfl⟩ := ok1_some he
    exact (fieldA_sound (opv_sound E _) e1).next H
  · obtain ⟨e1, rfl⟩ := ok1_some he
    exact (indexAddrA_sound (opv_sound E _) (opv_sound E _) e1).next H
  · obtain ⟨e1, rfl⟩ := ok1_some he
    exact (indexA_sound (opv_sound E _) (opv_sound E _) e1).next H
  · obtain ⟨e1, rfl⟩ := ok1_some he
    obtain ⟨y, k1, k2⟩ := lookupA_sound (P := P) H (opv_sound E _) (opv_sound E _) e1
    exact next_read H k1 k2
  · obtain ⟨e1, rfl⟩ := okU_some he
    obtain ⟨w', k1, k2, k3⟩ := mapUpdateA_sound (P := P) H (opv_sound E _) (opv_sound E _) (opv_sound E _) e1
    exact next_unit k1 k2 k3
  · obtain ⟨e1, rfl⟩ := okU_some he
    obtain ⟨w', k1, k2, k3⟩ := mapUpdateA_sound (P := P) H (opv_sound E _) (opv_sound E _) (opv_sound E _) e1
    exact next_unit k1 k2 k3
  · exact (rangeA_sound H (opv_sound E _) he).next
  · exact (nextA_sound H (opv_sound E _) he).next
  · obtain ⟨e1, rfl⟩ := ok1_some he
    obtain ⟨y, k1, k2⟩ := entryA_sound (P := P) H (opv_sound E _) e1
    exact next_read H k1 k2
  · obtain ⟨e1, rfl⟩ := ok1_some he
    exact (extractA_sound (opv_sound E _) e1).next H
  · rename_i b args ats
    have := builtinA_sound (P := P) (ty := ty) (cs := args.map fun | .const _ => true | _ => false) H (opvs_sound E args) he
    obtain ⟨nx, x, w', ρ', k1, k2⟩ := this
    refine ⟨nx, x, w', ρ', ?_, k2⟩
    rw [← k1]
    rfl
  · cases he

end Go.Ab

namespace Go.Ab
open Go.RowKit

variable {ω : Type} {P : Program} {n0 : Nat} {w0 : World} {ρ : Pl} {h : AH} {w : World}

/-! ### frames -/

/-- Calls that were put off. -/
def DR (ρ : Pl) (p : Nat × List AV) (d : Deferred) : Prop := ∃ cap, d.target = .fn (.func p.1) cap ∧ VRs ρ p.2 (d.args ++ cap).toList

def DsR (ρ : Pl) (ps : List (Nat × List AV)) (ds : List Deferred) : Prop := ps.length = ds.length ∧ ∀ (i : Nat) p d, ps[i]? = some p → ds[i]? = some d → DR ρ p d

theorem DR.mono {ρ ρ' : Pl} (x : Ext ρ ρ') {p : Nat × List AV} {d : Deferred} (h : DR ρ p d) : DR ρ' p d := let ⟨cap, h1, h2⟩ := h; ⟨cap, h1, h2.mono x⟩
theorem DsR.mono {ρ ρ' : Pl} (x : Ext ρ ρ') {ps : List (Nat × List AV)} {ds : List Deferred} (h : DsR ρ ps ds) : DsR ρ' ps ds := ⟨h.1, fun i p d hp hd => (h.2 i p d hp hd).mono x⟩
theorem DsR.nil : DsR ρ [] [] := ⟨rfl, fun i p d h => by simp at h⟩
theorem DsR.cons {p : Nat × List AV} {ps : List (Nat × List AV)} {d : Deferred} {ds : List Deferred} (h : DR ρ p d) (hs : DsR ρ ps ds) : DsR ρ (p :: ps) (d :: ds) := by
  refine ⟨by simp [hs.1], fun i q e hq he => ?_⟩
  cases i with
  | zero => simp at hq he; subst hq; subst he; exact h
  | succ i => exact hs.2 i q e (by simpa using hq) (by simpa using he)
theorem DsR.uncons {p : Nat × List AV} {ps : List (Nat × List AV)} {ds : List Deferred} (h : DsR ρ (p :: ps) ds) : ∃ d ds', ds = d :: ds' ∧ DR ρ p d ∧ DsR ρ ps ds' := by
  cases ds with
  | nil => have := h.1; simp at this
  | cons d ds => exact ⟨d, ds, rfl, h.2 0 p d rfl rfl, by simpa using h.1, fun i q e hq he => h.2 (i + 1) q e (by simpa using hq) (by simpa using he)⟩
theorem DsR.nil_inv {ds : List Deferred} (h : DsR ρ [] ds) : ds = [] := by
  cases ds with
  | nil => rfl
  | cons => have := h.1; simp at this

structure FR (ρ : Pl) (n : Nat) (f : AF) (a : Act) : Prop where
  env : ER ρ n f.env a.tmps
  ds : DsR ρ f.ds a.defers

theorem FR.mono {ρ ρ' : Pl} (x : Ext ρ ρ') {n : Nat} {f : AF} {a : Act} (h : FR ρ n f a) : FR ρ' n f a := ⟨h.env.mono x, h.ds.mono x⟩

theorem ER.set {n d : Nat} {e : Env} {tmps : Array Value} {v : AV} {x : Value} (E : ER ρ n e tmps) (hd : d < n) (hn : n ≤ 512) (r : VR ρ v x) : ER ρ n (e.set d v) (tmps.setIfInBounds d x) := by
  refine ⟨by simpa using E.size, fun t ht => ?_, E.glob⟩
  rw [Env.get_set e v (by omega) ht]
  have hsz := E.size
  by_cases h : t = d
  · subst h
    have hlt : t < tmps.size := by omega
    simp only [if_true, Array.getD_eq_getD_getElem?, Array.getElem?_setIfInBounds_self, hlt, if_true, Option.getD_some]
    exact r
  · rw [if_neg h]
    have := E.vals t ht
    simpa [Array.getD_eq_getD_getElem?, Array.getElem?_setIfInBounds_ne (Ne.symm h)] using this

theorem put_sound {n : Nat} {f : AF} {a : Act} {dst : Option Nat} {v : AV} {x : Value} {k : AF → Option ω} {out : ω} (hn : n ≤ 512) (F : FR ρ n f a) (r : VR ρ v x) (e : AF.put n f dst v k = some out) :
    ∃ f', k f' = some out ∧ FR ρ n f' (a.put dst x) := by
  unfold AF.put at e
  split at e
  · exact ⟨f, e, F⟩
  · rename_i d
    split at e <;> try (cases e; done)
    rename_i hd
    rw [Nat.blt_eq] at hd
    obtain ⟨env, ds⟩ := f
    exact ⟨_, e, F.env.set hd hn r, F.ds⟩

/-- What follows, beside the abstract rest. -/
def Cont (n0 : Nat) (w0 : World) (n : Nat) (ρ : Pl) (h : AH) (w : World) (k : AF → AH → Option ω) (out : ω) (a' : Act) (w' : World) : Prop :=
  ∃ f' h' ρ', k f' h' = some out ∧ FR ρ' n f' a' ∧ Goes ρ h w ρ' h' w' ∧ HR n0 w0 ρ' h' w'

theorem Cont.step {n : Nat} {ρ ρ1 : Pl} {h h1 : AH} {w w1 : World} {k : AF → AH → Option ω} {out : ω} {a' : Act} {w' : World} (G : Goes ρ h w ρ1 h1 w1) (c : Cont n0 w0 n ρ1 h1 w1 k out a' w') : Cont n0 w0 n ρ h w k out a' w' :=
  let ⟨f', h', ρ', c1, c2, c3, c4⟩ := c; ⟨f', h', ρ', c1, c2, G.trans c3, c4⟩

/-- What a call comes to. -/
def RetR (n0 : Nat) (w0 : World) (ρ : Pl) (h : AH) (w : World) (k : KV ω) (out : ω) (e : Ending) (w' : World) : Prop :=
  ∃ v x ρ' h', e = .returned x ∧ VR ρ' v x ∧ Goes ρ h w ρ' h' w' ∧ HR n0 w0 ρ' h' w' ∧ k v h' = some out

/-- A call comes to so much: it enters, or gives its value at once. -/
def Outcome (P : Program) (g : FuncId) (vs : Array Value) (w : World) (R : Ending → World → Prop) : Prop :=
  ((callFunc g vs).run P w = .ok (.enter g vs) w ∧ Calls P g vs w R) ∨ ∃ x w', (callFunc g vs).run P w = .ok (.value x) w' ∧ R (.returned x) w'

/-- The calls are as the abstract ones. -/
def CallSound (P : Program) (n0 : Nat) (w0 : World) (call : CallH ω) : Prop :=
  ∀ (g : Nat) (args : List AV) (h : AH) (k : KV ω) (out : ω), call g args h k = some out → ∀ (ρ : Pl) (w : World) (vs : Array Value), HR n0 w0 ρ h w → GR ρ → VRs ρ args vs.toList → Outcome P g vs w (RetR n0 w0 ρ h w k out)

/-- The same of calls that were put off. -/
def LateSound (P : Program) (n0 : Nat) (w0 : World) (call : CallH ω) : Prop :=
  ∀ (g : Nat) (args : List AV) (h : AH) (k : KV ω) (out : ω), call g args h k = some out → ∀ (ρ : Pl) (w : World) (vs : Array Value), HR n0 w0 ρ h w → GR ρ → VRs ρ args vs.toList →
    (callFunc g vs).run P w = .ok (.enter g vs) w ∧ ∀ u, CallsD P g vs u w fun e u' w' => u' = u ∧ RetR n0 w0 ρ h w k out e w'

/-! ### one operation -/

theorem wantedA_sound {n : Nat} {f : AF} {a : Act} {ops : Array Oper} {o : Oper} {b : Bool} (F : FR ρ n f a) (e : wantedA ops.toList o f = some b) : Region.wanted o (yielded ops a.tmps) = b := by
  unfold wantedA at e
  have hg : ∀ q, guardOf ops.toList o = some q → (q = none ∧ o.guard = none) ∨ ∃ t want j g, q = some (t, want) ∧ o.guard = some (j, want) ∧ ops[j]? = some g ∧ g.dst = some t := fun q hq => by
    unfold guardOf at hq
    split at hq
    · rename_i h; cases hq; exact .inl ⟨rfl, h⟩
    · rename_i j want h
      split at hq <;> try (cases hq; done)
      rename_i g hgj
      split at hq <;> try (cases hq; done)
      rename_i t ht
      cases hq
      exact .inr ⟨t, want, j, g, rfl, h, by simpa using hgj, ht⟩
  split at e
  · rename_i hgo
    rcases hg _ hgo with ⟨_, h⟩ | ⟨t, want, j, g, h, _⟩
    · cases e; simp [Region.wanted, h]
    · cases h
  · rename_i t want hgo
    rcases hg _ hgo with ⟨h, _⟩ | ⟨t', want', j, g, h, h1, h2, h3⟩
    · cases h
    cases h
    have hyb : ∀ b, a.tmps[t]? = some (.bool b) → yielded ops a.tmps j = some b := fun b hb => by
      simp only [yielded, h2, Option.bind_some, h3, hb]
    have hyn : (∀ b, a.tmps[t]? ≠ some (.bool b)) → yielded ops a.tmps j = none := fun hno => by
      unfold yielded
      rw [h2, Option.bind_some, h3, Option.bind_some]
      split
      · rename_i b hb; exact absurd hb (hno b)
      · rfl
    split at e <;> try (cases e; done)
    · rename_i bb ht hv
      rw [Nat.blt_eq] at ht
      have hr := F.env.vals t ht
      have hr' : VR ρ (.bool bb) (a.tmps.getD t Go.undef) := by
        have : f.env.get t = .bool bb := hv
        rw [← this]; exact hr
      generalize hx : a.tmps.getD t Go.undef = x at hr'
      cases hr'
      have hx' : a.tmps[t]? = some (.bool bb) := by
        rw [Array.getD_eq_getD_getElem?] at hx
        cases hq : a.tmps[t]? with
        | none => rw [hq] at hx; simp [Go.undef] at hx
        | some y => rw [hq] at hx; simp at hx; rw [hx]
      simp only [Option.some.injEq] at e
      subst e
      simp only [Region.wanted, h1, hyb _ hx']
      cases want <;> cases bb <;> rfl
    · rename_i ht hne1 hne2
      cases e
      rw [Nat.blt_eq] at ht
      have hr := F.env.vals t ht
      have hno : ∀ b, a.tmps[t]? ≠ some (.bool b) := fun b hb => by
        have hx : a.tmps.getD t Go.undef = .bool b := by rw [Array.getD_eq_getD_getElem?, hb]; rfl
        rw [hx] at hr
        generalize hq : f.env.get t = q at hr
        cases hr
        · exact hne2 hq
        · exact hne1 _ hq
      simp [Region.wanted, h1, hyn hno]
  · cases e

/-- What one operation comes to. -/
def ContV (n0 : Nat) (w0 : World) (ρ : Pl) (h : AH) (w : World) (k : KV ω) (out : ω) (x : Value) (w' : World) : Prop :=
  ∃ v h' ρ', k v h' = some out ∧ VR ρ' v x ∧ Goes ρ h w ρ' h' w' ∧ HR n0 w0 ρ' h' w'

theorem operV_sound {call : CallH ω} (hcall : CallSound P n0 w0 call) {n : Nat} {env : Env} {a : Act} {o : Oper} {k : KV ω} {out : ω} (E : ER ρ n env a.tmps) (H : HR n0 w0 ρ h w) (e : operV P call o.op env h k = some out)
    {K : Act → World → Prop} {Q : Exit → Act → World → Prop} (hK : ∀ x w', ContV n0 w0 ρ h w k out x w' → K (a.put o.dst x) w') : o.wp P a w K Q := by
  have key : ∀ {fop : Operand} {g : Nat} {first cap : List AV}, opv env fop = .fn g first cap → ∃ xs ys, a.eval fop = .func (.func g) xs ys ∧ VRs ρ first xs.toList ∧ VRs ρ cap ys.toList := fun {fop g first cap} hv => by
    have hr := opv_sound E fop
    rw [hv] at hr
    generalize hx : a.eval fop = x at hr
    cases hr with
    | fn h1 h2 h3 h4 => exact ⟨_, _, rfl, .ofArr h1 h2, .ofArr h3 h4⟩
  unfold operV at e
  split at e
  · rename_i fop args ats hop
    split at e <;> try (cases e; done)
    rename_i g first cap hv
    obtain ⟨xs, ys, hx, r1, r2⟩ := key hv
    have rargs : VRs ρ (first ++ args.toList.map (opv env) ++ cap) (xs ++ args.map a.eval ++ ys).toList := by
      rw [Array.toList_append, Array.toList_append]
      exact (r1.append (opvs_sound E args)).append r2
    have hexec : (execOp a.eval o).run P w = (callFunc g (xs ++ args.map a.eval ++ ys)).run P w := by
      obtain ⟨dst, op, ty, pos, after, guard⟩ := o
      simp only at hop
      subst hop
      simp only [execOp, resolve, hx, Deferred.ofValue, Sem.run_bind, Sem.run_pure, Result.andThen_ok, invoke]
    have fin : ∀ x w', RetR n0 w0 ρ h w k out (.returned x) w' → K (a.put o.dst x) w' := fun x w' hr => by
      obtain ⟨v, x', ρ', h', hx', k1, k2, k3, k4⟩ := hr
      cases hx'
      exact hK _ _ ⟨v, h', ρ', k4, k1, k2, k3⟩
    unfold Oper.wp
    rcases hcall g _ h _ out e ρ w (xs ++ args.map a.eval ++ ys) H E.glob rargs with ⟨hcf, hc⟩ | ⟨x, w', hcf, hr⟩
    · rw [hexec, hcf, Oper.upon_enter]
      refine hc.mono fun e' w' hr => ?_
      obtain ⟨v, x, ρ', h', rfl, k1, k2, k3, k4⟩ := hr
      exact fin _ _ ⟨v, x, ρ', h', rfl, k1, k2, k3, k4⟩
    · rw [hexec, hcf, Oper.upon_value]
      exact fin _ _ hr
  · split at e <;> try (cases e; done)
    rename_i v h' hop
    obtain ⟨nx, x, w', ρ', h1, h2, h3, h4, h5⟩ := opA_sound H E hop
    have hc : ContV n0 w0 ρ h w k out x w' := ⟨v, h', ρ', e, h3, h4, h5⟩
    unfold Oper.wp
    rw [h1]
    rcases h2 with rfl | ⟨rfl, rfl⟩
    · exact hK _ _ hc
    · exact hK _ _ hc

theorem operA_sound {call : CallH ω} (hcall : CallSound P n0 w0 call) {n : Nat} {f : AF} {a : Act} {o : Oper} {k : AF → AH → Option ω} {out : ω} (hn : n ≤ 512) (F : FR ρ n f a) (H : HR n0 w0 ρ h w) (e : operA P call n o f h k = some out)
    {K : Act → World → Prop} {Q : Exit → Act → World → Prop} (hK : ∀ a' w', Cont n0 w0 n ρ h w k out a' w' → K a' w') : o.wp P a w K Q := by
  unfold operA at e
  split at e
  · rename_i fop args ats hop
    split at e <;> try (cases e; done)
    rename_i g first cap hv
    have hr := opv_sound F.env fop
    rw [hv] at hr
    obtain ⟨xs, ys, hx, r1, r2⟩ : ∃ xs ys, a.eval fop = .func (.func g) xs ys ∧ VRs ρ first xs.toList ∧ VRs ρ cap ys.toList := by
      generalize hx : a.eval fop = x at hr
      cases hr with
      | fn h1 h2 h3 h4 => exact ⟨_, _, rfl, .ofArr h1 h2, .ofArr h3 h4⟩
    obtain ⟨env, ds⟩ := f
    simp only at e r1 r2
    have rargs : VRs ρ (first ++ args.toList.map (opv env) ++ cap) (xs ++ args.map a.eval ++ ys).toList := by
      rw [Array.toList_append, Array.toList_append]
      exact (r1.append (opvs_sound F.env args)).append r2
    have hrun : (execOp a.eval o).run P w = .ok (.defer { target := .fn (.func g) ys, args := xs ++ args.map a.eval }) w := by
      obtain ⟨dst, op, ty, pos, after, guard⟩ := o
      simp only at hop
      subst hop
      simp only [execOp, resolve, hx, Deferred.ofValue, Sem.run_bind, Sem.run_pure, Result.andThen_ok]
    have F2 : FR ρ n ⟨env, (g, first ++ args.toList.map (opv env) ++ cap) :: ds⟩ { a with defers := { target := .fn (.func g) ys, args := xs ++ args.map a.eval } :: a.defers } :=
      ⟨F.env, .cons ⟨ys, rfl, rargs⟩ F.ds⟩
    obtain ⟨f', k5, k6⟩ := put_sound hn F2 (VR.undef ρ) e
    unfold Oper.wp
    rw [hrun, Oper.upon_defer]
    exact hK _ _ ⟨f', h, ρ, k5, k6, .refl ρ h w, H⟩
  · refine operV_sound hcall F.env H e fun x w' hc => ?_
    obtain ⟨v, h', ρ', k1, k2, k3, k4⟩ := hc
    obtain ⟨f', k5, k6⟩ := put_sound hn (F.mono k3.ext) k2 k1
    exact hK _ _ ⟨f', h', ρ', k5, k6, k3, k4⟩

theorem opersA_sound {call : CallH ω} (hcall : CallSound P n0 w0 call) {n : Nat} (hn : n ≤ 512) {ops : Array Oper} {Q : Exit → Act → World → Prop} :
    ∀ (l : List Oper) (ρ : Pl) (f : AF) (h : AH) (a : Act) (w : World) (k : AF → AH → Option ω) (out : ω), FR ρ n f a → HR n0 w0 ρ h w → opersA P call n ops.toList l f h k = some out →
      (∀ a' w', Cont n0 w0 n ρ h w k out a' w' → Q .normal a' w') → wpList P ops Q l a w
  | [], ρ, f, h, a, w, k, out, F, H, e, hQ => hQ a w ⟨f, h, ρ, e, F, .refl ρ h w, H⟩
  | o :: l, ρ, f, h, a, w, k, out, F, H, e, hQ => by
    simp only [opersA] at e
    unfold wpList
    split at e <;> try (cases e; done)
    · rename_i hw
      rw [if_pos (wantedA_sound F hw)]
      refine .inl (operA_sound hcall hn F H e fun a' w' c => ?_)
      obtain ⟨f', h', ρ', c1, c2, c3, c4⟩ := c
      exact opersA_sound hcall hn l ρ' f' h' a' w' k out c2 c4 c1 fun a2 w2 c => hQ a2 w2 (c.step c3)
    · rename_i hw
      rw [if_neg (by rw [wantedA_sound F hw]; simp)]
      obtain ⟨f', k1, k2⟩ := put_sound hn F (VR.undef ρ) e
      exact opersA_sound hcall hn l ρ f' h _ w k out k2 H k1 hQ

end Go.Ab

namespace Go.Ab
open Go.RowKit

variable {ω : Type} {P : Program}

/-! ### what an operation hangs on -/

theorem opv_congr {e e' : Env} {x : Operand} (h : ∀ t, x = .tmp t → t < 512 → e.get t = e'.get t) : opv e x = opv e' x := by
  cases x with
  | tmp t =>
    simp only [opv]
    cases hb : Nat.blt t 512 with
    | false => rfl
    | true => exact h t rfl (by rwa [Nat.blt_eq] at hb)
  | _ => rfl

theorem pairs_congr {e e' : Env} {ps : Array (Nat × Operand)} (h : ∀ x ∈ (ps.toList.map (·.2)).toArray, opv e x = opv e' x) :
    (ps.toList.map fun p => (p.1, opv e p.2)) = ps.toList.map fun p => (p.1, opv e' p.2) :=
  List.map_congr_left fun p hp => by rw [h p.2 (by simp only [List.mem_toArray, List.mem_map]; exact ⟨p, hp, rfl⟩)]

theorem list_congr {e e' : Env} {xs : Array Operand} (h : ∀ x ∈ xs, opv e x = opv e' x) : xs.toList.map (opv e) = xs.toList.map (opv e') :=
  List.map_congr_left fun x hx => h x (by simpa using hx)

theorem opt_congr {e e' : Env} {x : Option Operand} (h : ∀ y ∈ x.toArray, opv e y = opv e' y) : x.map (opv e) = x.map (opv e') := by
  cases x with
  | none => rfl
  | some x => simp only [Option.map_some]; rw [h x (by simp)]

theorem makeA_congr {o : Op} {e e' : Env} (h : ∀ x ∈ o.operands, opv e x = opv e' x) : makeA P o e = makeA P o e' := by
  cases o <;> simp only [makeA]
  case box t x => rw [h x (by simp [Op.operands])]
  case buildSlice t n ps => rw [pairs_congr h]
  case makeMap t r =>
    cases r with
    | none => cases P.underlying t with
      | none => rfl
      | some d => cases d <;> rfl
    | some x =>
      have hx := h x (by simp [Op.operands])
      cases P.underlying t with
      | none => rfl
      | some d => cases d <;> first | rfl | (simp only [hx])
  case makeSlice t l c => rw [h l (by simp [Op.operands]), h c (by simp [Op.operands])]
  case convert s d x => rw [h x (by simp [Op.operands])]

theorem opA_congr {o : Op} {e e' : Env} (hh : AH) (h : ∀ x ∈ o.operands, opv e x = opv e' x) : opA P o e hh = opA P o e' hh := by
  cases o <;> simp only [opA]
  case move x => rw [h x (by simp [Op.operands])]
  case assign x => rw [h x (by simp [Op.operands])]
  case pick c a b => rw [h c (by simp [Op.operands]), h a (by simp [Op.operands]), h b (by simp [Op.operands])]
  case alloc t => rw [makeA_congr h]
  case box t x => rw [makeA_congr h]
  case build t ps => rw [pairs_congr h]
  case buildSlice t n ps => rw [makeA_congr h]
  case load t x => rw [h x (by simp [Op.operands])]
  case store t x y => rw [h x (by simp [Op.operands]), h y (by simp [Op.operands])]
  case nilCheck x => rw [h x (by simp [Op.operands])]
  case binOp op t x y z => rw [h x (by simp [Op.operands]), h y (by simp [Op.operands])]
  case unOp op t x => rw [h x (by simp [Op.operands])]
  case convert s d x => rw [makeA_congr h, h x (by simp [Op.operands])]
  case sliceToArrayPointer t x => rw [h x (by simp [Op.operands])]
  case makeInterface t x => rw [h x (by simp [Op.operands])]
  case makeFunc fn first cap =>
    cases fn with
    | func f => simp only; rw [list_congr fun x hx => h x (by simp [Op.operands, hx]), list_congr fun x hx => h x (by simp [Op.operands, hx])]
    | _ => rfl
  case makeMap t r => rw [makeA_congr h]
  case makeSlice t l c => rw [makeA_congr h]
  case slice t x lo hi mx =>
    rw [h x (by simp [Op.operands]), opt_congr fun y hy => h y (by simp only [Op.operands, Array.mem_append]; exact .inl (.inl (.inr hy))),
      opt_congr fun y hy => h y (by simp only [Op.operands, Array.mem_append]; exact .inl (.inr hy)), opt_congr fun y hy => h y (by simp only [Op.operands, Array.mem_append]; exact .inr hy)]
  case fieldAddr t x f => rw [h x (by simp [Op.operands])]
  case field t x f => rw [h x (by simp [Op.operands])]
  case indexAddr t x i => rw [h x (by simp [Op.operands]), h i (by simp [Op.operands])]
  case index t x i => rw [h x (by simp [Op.operands]), h i (by simp [Op.operands])]
  case lookup t x k ok => rw [h x (by simp [Op.operands]), h k (by simp [Op.operands])]
  case mapUpdate t m k v => rw [h m (by simp [Op.operands]), h k (by simp [Op.operands]), h v (by simp [Op.operands])]
  case insert t m k v => rw [h m (by simp [Op.operands]), h k (by simp [Op.operands]), h v (by simp [Op.operands])]
  case range t x => rw [h x (by simp [Op.operands])]
  case next x s => rw [h x (by simp [Op.operands])]
  case entry x => rw [h x (by simp [Op.operands])]
  case extract x i => rw [h x (by simp [Op.operands])]
  case call c =>
    obtain ⟨callee, args, ats⟩ := c
    cases callee with
    | builtin b => simp only; rw [list_congr fun x hx => h x (by simp [Op.operands, Call.operands, hx])]
    | _ => rfl

theorem operV_congr {call : CallH ω} {o : Op} {e e' : Env} {hh : AH} {k : KV ω} (h : ∀ x ∈ o.operands, opv e x = opv e' x) : operV P call o e hh k = operV P call o e' hh k := by
  have key : (match opA P o e hh with | some (v, h') => k v h' | none => none) = (match opA P o e' hh with | some (v, h') => k v h' | none => none) := by rw [opA_congr hh h]
  cases o
  case call c =>
    obtain ⟨callee, args, ats⟩ := c
    cases callee with
    | value f => simp only [operV]; rw [list_congr fun x hx => h x (by simp [Op.operands, Call.operands, hx]), h f (by simp [Op.operands, Call.operands])]
    | builtin b => exact key
    | invoke r m => exact key
  all_goals exact key

end Go.Ab

/- Regions. -/
namespace Go.Ab.E
open Go.Ab

variable {ω : Type} {env : List Nat} {T : F.Tb} {call : CallH ω} {cx : Cx ω} {out : ω}

theorem dstOf_keep {n : Nat} {d : Option Nat} {t : Nat} (h : dstOf env n d = .keep t) : d = some t ∧ t < n ∧ slotOf env t = none := by
  unfold dstOf at h
  split at h
  · cases h
  · rename_i u
    split at h
    · rename_i hb
      split at h
      · split at h <;> cases h
      · rename_i hp
        cases h
        exact ⟨rfl, Nat.blt_eq.mp hb, by simp only [slotOf, hp]⟩
    · cases h

theorem dstOf_frame {n : Nat} {d : Option Nat} {s : Sl} (h : dstOf env n d = .frame s) : ∃ t, d = some t ∧ t < n ∧ slotOf env t = some s := by
  unfold dstOf at h
  split at h
  · cases h
  · rename_i u
    split at h
    · rename_i hb
      split at h
      · rename_i i hp
        split at h
        · rename_i s' hs
          cases h
          exact ⟨u, rfl, Nat.blt_eq.mp hb, by simp only [slotOf, hp, hs]⟩
        · cases h
      · cases h
    · cases h

theorem dstOf_drop {n : Nat} {d : Option Nat} (h : dstOf env n d = .drop) : d = none := by
  unfold dstOf at h
  split at h
  · rfl
  · split at h
    · split at h
      · split at h <;> cases h
      · cases h
    · cases h

theorem put_some {n t : Nat} {a : AF} {v : AV} {k : AF → Option ω} (ht : t < n) : AF.put n a (some t) v k = k ⟨a.env.set t v, a.ds⟩ := by
  obtain ⟨e, ds⟩ := a
  simp only [AF.put, Nat.blt_eq.mpr ht]

theorem resolve_lt {names : List (Nat × Src)} {depth : Nat} {rest : List Oper} {l : Loc} {a : AF} (N : NmR env names depth rest l a) {g : Nat} {xa : XA} (h : resolve env names depth (.tmp g) = some xa) : g < 512 := by
  have base : ∀ {xa : XA}, baseX env (.tmp g) = some xa → g < 512 := fun {xa} h => by
    simp only [baseX] at h
    split at h
    · rename_i ht; exact Nat.blt_eq.mp ht
    · cases h
  simp only [resolve] at h
  split at h
  · rename_i i hf; exact (N.known g _ hf).1
  · rename_i y hf; exact (N.known g _ hf).1
  · exact base h

/-- One operation of a region, and the rest. -/
theorem step_sim {n : Nat} {ops : List Oper} {o : Oper} {os : List Oper} {names : List (Nat × Src)} {depth : Nat} {l : Loc} {fr : Fr} {a : AF} {h : AH} {j : JF ω} {k : AF → AH → Option ω}
    (hc : CallSim (Cx.call cx) call out) (R : FrR env fr a) (N : NmR env names depth (o :: os) l a) (hres : allRes env names depth o.op.operands.toList = true)
    (hj : ∀ v fr1 a1 h', a1.env = a.env → FrR env fr1 a1 → j v cx l fr1 h' = some out → AF.put n a1 o.dst v (fun a' => F.opersA T call n ops os a' h' k) = some out) :
    (guardOf ops o = some none → (mkOper T o.op (accOf env names depth) j).run cx l fr h = some out → F.opersA T call n ops (o :: os) a h k = some out) ∧
    (∀ g want gx, guardOf ops o = some (some (g, want)) → resolve env names depth (.tmp g) = some gx → (guarded gx want (mkOper T o.op (accOf env names depth) j) j).run cx l fr h = some out → F.opersA T call n ops (o :: os) a h k = some out) := by
  have hacc : ∀ x ∈ o.op.operands, (accOf env names depth x).run l fr = opv a.env x := fun x hx => allRes_acc R N hres x (by simpa using hx)
  have run : (mkOper T o.op (accOf env names depth) j).run cx l fr h = some out → F.operA T call n o a h (fun a' h' => F.opersA T call n ops os a' h' k) = some out :=
    fun e => mkOper_sim hc R hacc (fun v fr1 a1 h' h1 h2 _ h4 => hj v fr1 a1 h' h1 h2 h4) e
  refine ⟨fun hg e => ?_, fun g want gx hg hgx e => ?_⟩
  · have hw : wantedA ops o a = some true := by simp only [wantedA, hg]
    simp only [F.opersA, hw]
    exact run e
  · have hlt := resolve_lt N hgx
    have hgv := resolve_run R N hgx
    simp only [opv, Nat.blt_eq.mpr hlt] at hgv
    have skip : wantedA ops o a = some false → j .undef cx l fr h = some out → F.opersA T call n ops (o :: os) a h k = some out := fun hw e => by
      simp only [F.opersA, hw]
      exact hj _ fr a h rfl R e
    have exec : wantedA ops o a = some true → (mkOper T o.op (accOf env names depth) j).run cx l fr h = some out → F.opersA T call n ops (o :: os) a h k = some out := fun hw e => by
      simp only [F.opersA, hw]
      exact run e
    obtain ⟨gf⟩ := gx
    simp only at hgv
    cases want with
    | true =>
      have e' : gE (gf l fr) (fun b => Bool.rec (j .undef cx l fr h) ((mkOper T o.op (accOf env names depth) j).run cx l fr h) b) (j .undef cx l fr h) = some out := e
      rcases gE_some e' with ⟨b, hb, e1⟩ | ⟨h1, h2, e1⟩
      · rw [hgv] at hb
        have hw : wantedA ops o a = some b := by simp only [wantedA, hg, Nat.blt_eq.mpr hlt, hb]
        rcases boolRec_some e1 with ⟨rfl, e2⟩ | ⟨rfl, e2⟩
        · exact exec hw e2
        · exact skip hw e2
      · rw [hgv] at h1 h2
        refine skip ?_ e1
        simp only [wantedA, hg, Nat.blt_eq.mpr hlt]
    | false =>
      have e' : gE (gf l fr) (fun b => Bool.rec ((mkOper T o.op (accOf env names depth) j).run cx l fr h) (j .undef cx l fr h) b) (j .undef cx l fr h) = some out := e
      rcases gE_some e' with ⟨b, hb, e1⟩ | ⟨h1, h2, e1⟩
      · rw [hgv] at hb
        have hw : wantedA ops o a = some (!b) := by simp only [wantedA, hg, Nat.blt_eq.mpr hlt, hb]
        rcases boolRec_some e1 with ⟨rfl, e2⟩ | ⟨rfl, e2⟩
        · exact skip hw e2
        · exact exec hw e2
      · rw [hgv] at h1 h2
        refine skip ?_ e1
        simp only [wantedA, hg, Nat.blt_eq.mpr hlt]

theorem aliasOf_move {names : List (Nat × Src)} {op : Op} {rest : List Oper} {s : Src} (h : aliasOf env names op rest = some s) : ∃ x, op = .move x ∨ op = .assign x := by
  cases op <;> first | exact ⟨_, .inl rfl⟩ | exact ⟨_, .inr rfl⟩ | (simp only [aliasOf] at h; cases h)

theorem move_run {n : Nat} {o : Oper} {x : Operand} (ho : o.op = .move x ∨ o.op = .assign x) (a : AF) (h : AH) (k : AF → AH → Option ω) : F.operA T call n o a h k = AF.put n a o.dst (opv a.env x) fun a' => k a' h := by
  obtain ⟨dst, op, ty, pos, after, guard⟩ := o
  simp only at ho
  rcases ho with rfl | rfl <;> rfl

theorem cregion_sim {n : Nat} (hn : n ≤ 512) {ops : List Oper} {next : I ω} {k : AF → AH → Option ω} (hc : CallSim (Cx.call cx) call out)
    (hk : ∀ l' fr' a' h', FrR env fr' a' → next.run cx l' fr' h' = some out → k a' h' = some out) :
    ∀ (os : List Oper) (names : List (Nat × Src)) (depth : Nat) (l : Loc) (fr : Fr) (h : AH) (a : AF), FrR env fr a → NmR env names depth os l a →
      (cregion T n env ops next os names depth).run cx l fr h = some out → F.opersA T call n ops os a h k = some out
  | [], names, depth, l, fr, h, a, R, N, e => hk l fr a h R e
  | o :: os, names, depth, l, fr, h, a, R, N, e => by
    have ih : ∀ (names : List (Nat × Src)) (depth : Nat) (l : Loc) (fr : Fr) (h : AH) (a : AF), FrR env fr a → NmR env names depth os l a → (cregion T n env ops next os names depth).run cx l fr h = some out → F.opersA T call n ops os a h k = some out := cregion_sim hn hc hk os
    simp only [cregion] at e
    -- the common end
    have fin : ∀ (d : Dst) (names' : List (Nat × Src)) (depth' : Nat), dstOf env n o.dst = d → (∀ t, d = .keep t → names' = (t, .loc depth) :: names ∧ depth' = depth + 1) → ((∀ t, d ≠ .keep t) → names' = names ∧ depth' = depth) →
        allRes env names depth o.op.operands.toList = true →
        (guardOf ops o = some none → (J.rec (motive := fun _ => I ω) (fun j => mkOper T o.op (accOf env names depth) j) (mkJ d (cregion T n env ops next os names' depth'))).run cx l fr h = some out → F.opersA T call n ops (o :: os) a h k = some out) ∧
        (∀ g want gx, guardOf ops o = some (some (g, want)) → resolve env names depth (.tmp g) = some gx → (J.rec (motive := fun _ => I ω) (fun j => guarded gx want (mkOper T o.op (accOf env names depth) j) j) (mkJ d (cregion T n env ops next os names' depth'))).run cx l fr h = some out → F.opersA T call n ops (o :: os) a h k = some out) := by
      intro d names' depth' hd h1 h2 hres
      have hj : ∀ v fr1 a1 h', a1.env = a.env → FrR env fr1 a1 → (mkJ d (cregion T n env ops next os names' depth')).f v cx l fr1 h' = some out → AF.put n a1 o.dst v (fun a' => F.opersA T call n ops os a' h' k) = some out := by
        intro v fr1 a1 h' ha1 R1 e1
        cases d with
        | drop =>
          obtain ⟨rfl, rfl⟩ := h2 (fun t e => by cases e)
          rw [dstOf_drop hd]
          refine ih names' depth' l fr1 h' a1 R1 ?_ e1
          exact ⟨N.rest.known, fun t i hf => by rw [ha1]; exact N.rest.loc t i hf, fun t y hf => by rw [ha1]; exact N.rest.as t y hf⟩
        | keep t =>
          obtain ⟨rfl, rfl⟩ := h1 t rfl
          obtain ⟨h3, h4, h5⟩ := dstOf_keep hd
          rw [h3, put_some h4]
          refine ih _ _ (v :: l) fr1 h' _ (R1.keep (by omega) h5 v) ?_ e1
          rw [ha1]
          exact N.keep (n := n) (by omega) h5 v a1.ds
        | frame s =>
          obtain ⟨rfl, rfl⟩ := h2 (fun t e => by cases e)
          obtain ⟨t, h3, h4, h5⟩ := dstOf_frame hd
          rw [h3, put_some h4]
          have e2 : (cregion T n env ops next os names' depth').run cx l (fr1.set v s) h' = some out := by
            rw [← setX_eq]
            revert e1
            show (XS.rec (motive := fun _ => J ω) (fun g => ⟨fun v cx l fr h => (cregion T n env ops next os names' depth').run cx l (g v fr) h⟩) (setX s)).f v cx l fr1 h' = some out → _
            cases setX s
            exact id
          refine ih _ _ l _ h' _ (R1.frame (by omega) h5 v) ?_ e2
          rw [ha1]
          exact N.frame (by omega) h3 (by rw [h5]; simp) v a1.ds
        | bad => cases e1
      obtain ⟨s1, s2⟩ := step_sim (T := T) (h := h) hc R N hres hj
      generalize mkJ d (cregion T n env ops next os names' depth') = jj at s1 s2
      cases jj
      exact ⟨s1, s2⟩
    split at e
    · cases e
    · rename_i t hd
      split at e
      · rename_i s hg ha
        obtain ⟨h3, h4, h5⟩ := dstOf_keep hd
        obtain ⟨x, hx⟩ := aliasOf_move ha
        have hgo : guardOf ops o = some none := by simp only [guardOf, hg]
        have hw : wantedA ops o a = some true := by simp only [wantedA, hgo]
        simp only [F.opersA, hw]
        rw [move_run hx, h3, put_some h4]
        exact ih _ _ l fr h _ (R.keep (by omega) h5 _) (N.alias (by omega) h5 hx ha) e
      · obtain ⟨f1, f2⟩ : (allRes env names depth o.op.operands.toList = true → _) ∧ (allRes env names depth o.op.operands.toList = true → _) :=
          ⟨fun hr => (fin (.keep t) _ _ hd (fun u hu => by cases hu; exact ⟨rfl, rfl⟩) (fun hne => absurd rfl (hne t)) hr).1, fun hr => (fin (.keep t) _ _ hd (fun u hu => by cases hu; exact ⟨rfl, rfl⟩) (fun hne => absurd rfl (hne t)) hr).2⟩
        split at e
        · rename_i hr hg; exact f1 hr hg e
        · rename_i g want hr hg
          split at e
          · rename_i gx hgx; exact f2 hr g want gx hg hgx e
          · cases e
        · cases e
    · rename_i d hne1 hne2
      have hnk : ∀ t, dstOf env n o.dst ≠ .keep t := hne2
      split at e
      · rename_i hr hg
        exact (fin _ names depth rfl (fun t ht => absurd ht (hnk t)) (fun _ => ⟨rfl, rfl⟩) hr).1 hg e
      · rename_i g want hr hg
        split at e
        · rename_i gx hgx
          exact (fin _ names depth rfl (fun t ht => absurd ht (hnk t)) (fun _ => ⟨rfl, rfl⟩) hr).2 g want gx hg hgx e
        · cases e
      · cases e

end Go.Ab.E

namespace Go.Ab
open Go.RowKit

variable {ω : Type} {P : Program}

/-! ### operations that turn nothing -/

theorem ok1_of {r : Option AV} {v : AV} (h : AH) (e : r = some v) : ok1 h r = some (v, h) := by rw [e]; rfl

theorem pure_free {o : Op} {e : Env} {h h' : AH} {v : AV} (hk : kindOf P o = .pure) (he : opA P o e h = some (v, h')) : h' = h ∧ ∀ h2, opA P o e h2 = some (v, h2) := by
  have ok : ∀ r : Option AV, (∀ h, opA P o e h = ok1 h r) → h' = h ∧ ∀ h2, opA P o e h2 = some (v, h2) := fun r hr => by
    rw [hr] at he
    obtain ⟨e1, e2⟩ := ok1_some he
    exact ⟨e2, fun h2 => by rw [hr, e1]; rfl⟩
  have one : ∀ r : Option AV, (∀ h, opA P o e h = match r with | some v => some (v, h) | none => none) → h' = h ∧ ∀ h2, opA P o e h2 = some (v, h2) := fun r hr => by
    rw [hr] at he
    cases r with
    | none => cases he
    | some a => cases he; exact ⟨rfl, fun h2 => by rw [hr]⟩
  cases o
  case move x => exact one (some (opv e x)) fun h => rfl
  case assign x => exact one (some (opv e x)) fun h => rfl
  case pick c a b =>
    simp only [opA] at he ⊢
    split at he <;> try (cases he; done)
    · cases he; exact ⟨rfl, fun _ => rfl⟩
    · cases he; exact ⟨rfl, fun _ => rfl⟩
  case build t ps => exact ok _ fun h => rfl
  case nilCheck x => exact ok _ fun h => rfl
  case binOp op t x y z => exact ok _ fun h => rfl
  case unOp op t x => exact ok _ fun h => rfl
  case sliceToArrayPointer t x =>
    simp only [opA] at he ⊢
    split at he <;> try (cases he; done)
    split at he <;> try (cases he; done)
    cases he
    exact ⟨rfl, fun _ => rfl⟩
  case makeInterface t x =>
    simp only [opA] at he ⊢
    split at he <;> try (cases he; done)
    cases he
    exact ⟨rfl, fun _ => rfl⟩
  case makeFunc fn first cap =>
    cases fn with
    | func f => exact one (some (.fn f (first.toList.map (opv e)) (cap.toList.map (opv e)))) fun h => rfl
    | _ => exact one none fun h => rfl
  case slice t x lo hi mx => exact ok _ fun h => rfl
  case fieldAddr t x f => exact ok _ fun h => rfl
  case field t x f => exact ok _ fun h => rfl
  case indexAddr t x i => exact ok _ fun h => rfl
  case index t x i => exact ok _ fun h => rfl
  case extract x i => exact ok _ fun h => rfl
  case convert s d x => simp only [kindOf] at hk; split at hk <;> cases hk
  case call c =>
    obtain ⟨callee, args, ats⟩ := c
    cases callee with
    | builtin b =>
      cases b <;> simp only [kindOf] at hk <;> try (cases hk; done)
      all_goals
        simp only [opA] at ok one
        cases hl : args.toList.map (opv e) with
        | nil => exact one none fun h => by rw [hl]; rfl
        | cons x r => exact ok (minmaxA _ x r) fun h => by rw [hl]; rfl
    | _ => cases hk
  all_goals cases hk

/-- One memory holds what another holds, and maybe more. -/
def Sub (h h2 : AH) : Prop := ∀ j b, h.get j = some b → h2.get j = some b

theorem load_mono {h h2 : AH} {b : Id} {o n : Nat} {l : List AV} (s : Sub h h2) (e : h.load b o n = some l) : h2.load b o n = some l := by
  unfold AH.load at *
  split at e
  · rename_i hb
    rw [s _ _ hb]
    exact e
  · cases e

theorem loadV_mono {h h2 : AH} {t : Nat} {b : Id} {o : Nat} {v : AV} (s : Sub h h2) (e : loadV P t h b o = some v) : loadV P t h2 b o = some v := by
  unfold loadV at *
  split at e
  · split at e
    · split at e
      · rename_i hl
        rw [load_mono s hl]
        exact e
      · cases e
    · cases e
  · split at e
    · rename_i hl
      rw [load_mono s hl]
      exact e
    · cases e
  · cases e

theorem lookupA_mono {h h2 : AH} {t : Nat} {x k v : AV} {ok : Bool} (s : Sub h h2) (e : lookupA P t x k ok h = some v) : lookupA P t x k ok h2 = some v := by
  unfold lookupA at *
  split at e <;> try (cases e; done)
  split at e <;> try (cases e; done)
  split at e <;> try (cases e; done)
  cases x <;> try (exact e)
  rename_i r
  simp only at e ⊢
  cases hr : h.get r with
  | none => rw [hr] at e; cases e
  | some b => rw [hr] at e; rw [s _ _ hr]; exact e

theorem lenA_mono {h h2 : AH} {t : Nat} {x v : AV} (s : Sub h h2) (e : lenA P t x h = some v) : lenA P t x h2 = some v := by
  cases x
  case map r =>
    cases hu : P.underlying t with
    | none => simp only [lenA, hu] at e; cases e
    | some d =>
      cases d
      case map k el =>
        simp only [lenA, hu] at e ⊢
        cases hr : h.get r with
        | none => rw [hr] at e; cases e
        | some b => rw [hr] at e; rw [s _ _ hr]; exact e
      all_goals (simp only [lenA, hu] at e ⊢; exact e)
  all_goals
    rw [← e]
    unfold lenA
    cases P.underlying t with
    | none => rfl
    | some d => cases d <;> rfl

theorem entryA_mono {h h2 : AH} {x v : AV} (s : Sub h h2) (e : entryA x h = some v) : entryA x h2 = some v := by
  unfold entryA at *
  split at e <;> try (cases e; done)
  split at e <;> try (cases e; done)
  rename_i hr
  rw [s _ _ hr]
  simp only
  split at e <;> try (cases e; done)
  rename_i hl hm
  rw [hl, s _ _ hm]
  exact e

theorem convertA_mono {h h2 : AH} {a d : Nat} {x v : AV} (s : Sub h h2) (e : convertA P a d x h = some v) : convertA P a d x h2 = some v := by
  unfold convertA at *
  split at e <;> try (exact e)
  split at e <;> try (cases e; done)
  split at e <;> try (cases e; done)
  rename_i hl
  simp only [load_mono s hl]
  exact e

theorem read_mono {o : Op} {e : Env} {h h' : AH} {v : AV} (hk : kindOf P o = .read) (he : opA P o e h = some (v, h')) : h' = h ∧ ∀ h2, Sub h h2 → opA P o e h2 = some (v, h2) := by
  cases o
  case load t x =>
    simp only [opA] at he ⊢
    split at he <;> try (cases he; done)
    obtain ⟨e1, e2⟩ := ok1_some he
    exact ⟨e2, fun h2 s => ok1_of _ (loadV_mono s e1)⟩
  case lookup t x k ok =>
    obtain ⟨e1, e2⟩ := ok1_some he
    exact ⟨e2, fun h2 s => ok1_of _ (lookupA_mono s e1)⟩
  case entry x =>
    obtain ⟨e1, e2⟩ := ok1_some he
    exact ⟨e2, fun h2 s => ok1_of _ (entryA_mono s e1)⟩
  case convert s d x =>
    simp only [kindOf] at hk
    simp only [opA] at he ⊢
    cases hs : isSliceT P d with
    | true => rw [hs] at hk; revert hk; cases isSliceT P s <;> intro hk <;> cases hk
    | false =>
      rw [hs] at he
      obtain ⟨e1, e2⟩ := ok1_some he
      exact ⟨e2, fun h2 s => ok1_of _ (convertA_mono s e1)⟩
  case call c =>
    obtain ⟨callee, args, ats⟩ := c
    cases callee with
    | builtin b =>
      cases b <;> simp only [kindOf] at hk <;> try (cases hk; done)
      · simp only [opA] at he ⊢
        cases hl : args.toList.map (opv e) with
        | nil => rw [hl] at he; cases ht : ats.toList with
          | nil => rw [ht] at he; cases he
          | cons t ts => rw [ht] at he; cases he
        | cons x r => cases ht : ats.toList with
          | nil => rw [hl, ht] at he; cases he
          | cons t ts =>
            rw [hl, ht] at he
            obtain ⟨e1, e2⟩ := ok1_some (r := capA P t x) he
            exact ⟨e2, fun h2 s => ok1_of _ e1⟩
      · simp only [opA] at he ⊢
        cases hl : args.toList.map (opv e) with
        | nil => rw [hl] at he; cases ht : ats.toList with
          | nil => rw [ht] at he; cases he
          | cons t ts => rw [ht] at he; cases he
        | cons x r => cases ht : ats.toList with
          | nil => rw [hl, ht] at he; cases he
          | cons t ts =>
            rw [hl, ht] at he
            obtain ⟨e1, e2⟩ := ok1_some (r := lenA P t x h) he
            exact ⟨e2, fun h2 s => ok1_of _ (lenA_mono s e1)⟩
    | _ => cases hk
  all_goals cases hk

/-! ### the same values -/

theorem D8.same_eq {x y : D8} (h : D8.same x y = true) : x = y := D8.toNat_inj (Nat.eq_of_beq_eq_true h)

theorem Id.same_eq {x y : Id} (h : Id.same x y = true) : x = y := by
  obtain ⟨o, p, q, r, s⟩ := x
  obtain ⟨o', p', q', r', s'⟩ := y
  unfold Id.same at h
  split at h
  · rename_i h1 h2 h3 h4 h5
    simp only at h1 h2 h3 h4 h5
    rw [D8.same_eq h1, D8.same_eq h2, D8.same_eq h3, D8.same_eq h4, D8.same_eq h5]
  · cases h

theorem eqL_same : ∀ {x y : List Nat}, eqL x y = true → x = y
  | [], [], _ => rfl
  | a :: x, b :: y, h => by
    simp only [eqL] at h
    split at h
    · rename_i hb; rw [Nat.eq_of_beq_eq_true hb, eqL_same h]
    · cases h
  | [], _ :: _, h => by cases h
  | _ :: _, [], h => by cases h

theorem eqI_same {a b : Int} (h : eqI a b = true) : a = b := by rw [eqI_eq] at h; simpa using h

theorem sameO_eq {a b : Cap} (h : sameO a b = true) : a = b := by
  cases a <;> cases b <;> simp only [sameO] at h <;> first | cases h | rw [Nat.eq_of_beq_eq_true h]

theorem sameL_eq {f : AV → AV → Bool} (hf : ∀ x y, f x y = true → x = y) : ∀ {x y : List AV}, sameL f x y = true → x = y
  | [], [], _ => rfl
  | a :: x, b :: y, h => by
    simp only [sameL] at h
    split at h
    · rename_i hb; rw [hf _ _ hb, sameL_eq hf h]
    · cases h
  | [], _ :: _, h => by cases h
  | _ :: _, [], h => by cases h

theorem same_eq : ∀ (n : Nat) (x y : AV), same n x y = true → x = y
  | 0, _, _, h => by cases h
  | n + 1, x, y, h => by
    have ih := same_eq n
    unfold same at h
    split at h <;> try (cases h; done)
    · rename_i a b
      cases a <;> cases b <;> first | rfl | cases h
    · split at h
      · rename_i hk; rw [eqK_eq hk, eqI_same h]
      · cases h
    · rw [eqL_same h]
    · rfl
    · split at h
      · rename_i hk; rw [Nat.eq_of_beq_eq_true hk, Id.same_eq h]
      · cases h
    · rfl
    · split at h
      · rename_i h1 h2 h3; rw [Nat.eq_of_beq_eq_true h1, Nat.eq_of_beq_eq_true h2, sameO_eq h3, Id.same_eq h]
      · cases h
    · rfl
    · rw [Id.same_eq h]
    · rfl
    · split at h
      · rename_i h1
        split at h
        · rename_i h2; rw [Nat.eq_of_beq_eq_true h1, sameL_eq ih h2, sameL_eq ih h]
        · cases h
      · cases h
    · rfl
    · split at h
      · rename_i h1; rw [Nat.eq_of_beq_eq_true h1, ih _ _ h]
      · cases h
    · rw [sameL_eq ih h]
    · rw [sameL_eq ih h]

end Go.Ab
