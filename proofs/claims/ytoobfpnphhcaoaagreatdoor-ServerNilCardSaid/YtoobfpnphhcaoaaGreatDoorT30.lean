import Derived.Test.YtoobfpnphhcaoaaGreatDoorT15
set_option linter.unusedVariables false
set_option linter.unusedSimpArgs false
/- ServerNil, given that lives() is true. -/
namespace Go.Ab
open E Go.Proofs Go.RowKit

def maskN : Nat := 337789260083999622099730838986486666152972173283076735945165691706098584901660805274929253206854367475763233112008063164853787729989783383019841312153306872676320

def cfgN (kn pq : Nat → Bool) : E.Cfg := ⟨maskN, kn, pq⟩

theorem plansN_ok : E.plansUpTo T (cfgN (fun _ => false) (fun _ => false)) 600 = true := by kernel_rfl

theorem plansOkN (kn pq : Nat → Bool) : E.PlansOk Tryz.prog (cfgN kn pq) := by
  have h := E.plansOk_of (P := Tryz.prog) T_eq (cf := cfgN (fun _ => false) (fun _ => false)) (n := 600) (by kernel_rfl) plansN_ok
  exact fun f hf => h f hf

noncomputable def evN {ω : Type} (K : Known) (kn pq : Nat → Bool) (d f : Nat) (args : List AV) (h : AH) (k : KV ω) : Option ω := E.evFun T K (cfgN kn pq) 100000 d f args h k

theorem evN_ok {ω : Type} {K : Known} {kn pq : Nat → Bool} (hK : ∀ f args h p, K f args h = some p → pq f = true ∨ kn f = true) (hq : ∀ f args h v h', pq f = true → K f args h = some (v, h') → h' = h)
    {d f : Nat} {args : List AV} {h : AH} {k : KV ω} {out : ω} (e : evN K kn pq d f args h k = some out) : evFun Tryz.prog K 100000 d f args h k = some out :=
  E.evFun_ok (cf := cfgN kn pq) (K := K) T_eq hK hq (plansOkN kn pq) e

def K5 : Known := fun f args h => match Nat.beq f 14 with
  | true => match args with
    | [] => some (.bool true, h)
    | _ => none
  | false => none

def pq5 : Nat → Bool := fun f => Nat.beq f 14

theorem serverNil_run (n : Int) (z : Bool) : evN K5 none2 pq5 200 5 [.int .i64 n, .top, .bool z] G (fun v _ => some v) = some (.bool true) := by
  cases z with
  | true => kernel_rfl
  | false => kernel_rfl

end Go.Ab
