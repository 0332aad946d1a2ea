import Derived.Test.YtoobfpnphhcaoaaGreatDoorT17
import Derived.Test.YtoobfpnphhcaoaaGreatDoorT18
import Derived.Test.YtoobfpnphhcaoaaGreatDoorT19
import Derived.Test.YtoobfpnphhcaoaaGreatDoorT20
import Derived.Test.YtoobfpnphhcaoaaGreatDoorT21
import Derived.Test.YtoobfpnphhcaoaaGreatDoorT22
import Derived.Test.YtoobfpnphhcaoaaGreatDoorT23
import Derived.Test.YtoobfpnphhcaoaaGreatDoorT24
import Derived.Test.YtoobfpnphhcaoaaGreatDoorT25
import Derived.Test.YtoobfpnphhcaoaaGreatDoorT26
import Derived.Test.YtoobfpnphhcaoaaGreatDoorT27
import Derived.Test.YtoobfpnphhcaoaaGreatDoorT28
set_option linter.unusedVariables false
set_option linter.unusedSimpArgs false
/- lives(): true, in any world in which the package-level variables stand. -/
namespace Go.Ab
open E Go.Proofs Go.RowKit

noncomputable def tries (cs : List Cut) (args : List AV) (h : AH) : Option (AV × AH) :=
  match cs with
  | [] => none
  | c :: cs => match c.try args h with
    | some r => some r
    | none => tries cs args h

theorem KS3_ev {ω : Type} {d f : Nat} {args : List AV} {h : AH} {k : KV ω} {out : ω} (e : ev K3 none2 pq3 d f args h k = some out) : evFun Tryz.prog K3 100000 d f args h k = some out :=
  ev_ok (K := K3) (kn := none2) (pq := pq3) (fun _ _ _ p e => .inl (K3_ok (v := p.1) (h' := p.2) e).1) (fun _ _ _ _ _ _ e => (K3_ok e).2.1) e

/-- A cut call that was run. -/
def Cut.Ran (c : Cut) (f : Nat) : Prop := ev K3 none2 pq3 200 f c.args (heapOf c.pre c.n) (cutK c.val c.post c.n') = some ()

theorem tries_ok {f : Nat} : ∀ {cs : List Cut}, (∀ c ∈ cs, c.Ran f) → ∀ {args : List AV} {h h' : AH} {v : AV}, tries cs args h = some (v, h') → ∀ {n0 : Nat} {w0 : World} {ρ0 : Pl}, GW G n0 w0 ρ0 → Comes Tryz.prog n0 w0 f args h v h'
  | [], _, args, h, h', v, e => by cases e
  | c :: cs, hc, args, h, h', v, e => by
    simp only [tries] at e
    split at e
    · rename_i r hr
      cases e
      exact fun g => Cut.try_ok KS3 mix plainFuncs (KS3_ev (hc c List.mem_cons_self)) hr g
    · exact tries_ok (fun c h => hc c (List.mem_cons_of_mem _ h)) e

def asks : List Cut := [livesC0, livesC2, livesC4, livesC6, livesC8, livesC10]
def sent : List Cut := [livesC1, livesC3, livesC5, livesC7, livesC9, livesC11]

theorem asks_ran : ∀ c ∈ asks, c.Ran 7 := by
  intro c hc
  simp only [asks, List.mem_cons, List.not_mem_nil, or_false] at hc
  rcases hc with rfl | rfl | rfl | rfl | rfl | rfl
  · exact livesC0_run
  · exact livesC2_run
  · exact livesC4_run
  · exact livesC6_run
  · exact livesC8_run
  · exact livesC10_run

theorem sent_ran : ∀ c ∈ sent, c.Ran 8 := by
  intro c hc
  simp only [sent, List.mem_cons, List.not_mem_nil, or_false] at hc
  rcases hc with rfl | rfl | rfl | rfl | rfl | rfl
  · exact livesC1_run
  · exact livesC3_run
  · exact livesC5_run
  · exact livesC7_run
  · exact livesC9_run
  · exact livesC11_run

noncomputable def K4 : Known := fun f args h =>
  match Nat.beq f 7 with
  | true => tries asks args h
  | false => match Nat.beq f 8 with
    | true => tries sent args h
    | false => K3 f args h

def kn4 : Nat → Bool := fun f => match Nat.beq f 7 with | true => true | false => Nat.beq f 8

theorem K4_ok {f : Nat} {args : List AV} {h h' : AH} {v : AV} (e : K4 f args h = some (v, h')) : (pq3 f = true ∨ kn4 f = true) ∧ (pq3 f = true → h' = h) ∧ ∀ {n0 : Nat} {w0 : World} {ρ0 : Pl}, GW G n0 w0 ρ0 → Comes Tryz.prog n0 w0 f args h v h' := by
  unfold K4 at e
  split at e
  · rename_i hf
    obtain rfl := Nat.eq_of_beq_eq_true hf
    exact ⟨.inr rfl, (fun hh => by cases hh), fun g => tries_ok asks_ran e g⟩
  · split at e
    · rename_i hf
      obtain rfl := Nat.eq_of_beq_eq_true hf
      exact ⟨.inr rfl, (fun hh => by cases hh), fun g => tries_ok sent_ran e g⟩
    · obtain ⟨h1, h2, h3⟩ := K3_ok e
      exact ⟨.inl h1, fun _ => h2, h3⟩

theorem KS4 : KS Tryz.prog G K4 := KS.of fun _ _ _ g _ _ _ _ _ e => (K4_ok e).2.2 g

theorem KS4_ev {ω : Type} {d f : Nat} {args : List AV} {h : AH} {k : KV ω} {out : ω} (e : ev K4 kn4 pq3 d f args h k = some out) : evFun Tryz.prog K4 100000 d f args h k = some out :=
  ev_ok (K := K4) (kn := kn4) (pq := pq3) (fun _ _ _ p e => (K4_ok (v := p.1) (h' := p.2) e).1) (fun _ _ _ _ _ hp e => (K4_ok e).2.1 hp) e

theorem lives_run : ev K4 kn4 pq3 200 14 [] G (fun v _ => some v) = some (.bool true) := by kernel_rfl

theorem lives_comes {n0 : Nat} {w0 : World} {ρ0 : Pl} (g : GW G n0 w0 ρ0) (h : AH) : Comes Tryz.prog n0 w0 14 [] h (.bool true) h :=
  comes_value KS4 mix plainFuncs rfl rfl (KS4_ev lives_run) g h

end Go.Ab
