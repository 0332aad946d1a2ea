import Derived.Test.YtoobfpnphhcaoaaGreatDoorT11
import Derived.Test.YtoobfpnphhcaoaaGreatDoorProg
set_option linter.unusedVariables false
set_option linter.unusedSimpArgs false
/- The seat's program, made quick. -/
namespace Go.Ab
open Go.Proofs

noncomputable def tTypes : Tab TypeInfo := tabOf Tryz.types.toList
noncomputable def tFuncs : Tab Func := tabOf Tryz.funcs.toList
noncomputable def T : F.Tb := quickOf Tryz.prog tTypes tFuncs

theorem T_eq : T = F.tb Tryz.prog := by
  refine quickOf_eq _ _ _ (fun i x hx => ?_) (fun i => ?_)
  · have h := look_tabOf Tryz.types.toList (Nat.le_of_ble_eq_true (by kernel_rfl)) i
    rw [show tTypes.look i = Tryz.types.toList[i]? from h, Array.getElem?_toList] at hx
    exact info_types Tryz.prog rfl hx
  · have h := look_tabOf Tryz.funcs.toList (Nat.le_of_ble_eq_true (by kernel_rfl)) i
    rw [show tFuncs.look i = Tryz.funcs.toList[i]? from h, Array.getElem?_toList]
    rfl

theorem mix : Tryz.prog.follows .mixedOrders = true := by kernel_rfl

theorem plain_all : (Tryz.funcs.toList.all fun fn => !(fn.name == "runtime.NumGoroutine")) = true := by kernel_rfl

theorem plainFuncs : PlainFuncs Tryz.prog := by
  intro f fn hf
  have hm : fn ∈ Tryz.funcs.toList := by
    have : Tryz.funcs[f]? = some fn := hf
    exact Array.mem_toList_iff.2 (Array.mem_of_getElem? this)
  have := List.all_eq_true.1 plain_all fn hm
  simpa using this

def maskM : Nat := 337789260083999622099730838986486666152972173283076735945165691706098584901660805274929253206854367475763233112008063164853787729989783383019841312153306872237024

def cfg (kn pq : Nat → Bool) : E.Cfg := ⟨maskM, kn, pq⟩

theorem plans_ok : E.plansUpTo T (cfg (fun _ => false) (fun _ => false)) 600 = true := by kernel_rfl

theorem plansOk (kn pq : Nat → Bool) : E.PlansOk Tryz.prog (cfg kn pq) := by
  have h := E.plansOk_of (P := Tryz.prog) T_eq (cf := cfg (fun _ => false) (fun _ => false)) (n := 600) (by kernel_rfl) plans_ok
  exact fun f hf => h f hf

/-- The machine over the seat's program. -/
noncomputable def ev {ω : Type} (K : Known) (kn pq : Nat → Bool) (d f : Nat) (args : List AV) (h : AH) (k : KV ω) : Option ω := E.evFun T K (cfg kn pq) 100000 d f args h k

theorem ev_ok {ω : Type} {K : Known} {kn pq : Nat → Bool} (hK : ∀ f args h p, K f args h = some p → pq f = true ∨ kn f = true) (hq : ∀ f args h v h', pq f = true → K f args h = some (v, h') → h' = h)
    {d f : Nat} {args : List AV} {h : AH} {k : KV ω} {out : ω} (e : ev K kn pq d f args h k = some out) : evFun Tryz.prog K 100000 d f args h k = some out :=
  E.evFun_ok (cf := cfg kn pq) (K := K) T_eq hK hq (plansOk kn pq) e

end Go.Ab
