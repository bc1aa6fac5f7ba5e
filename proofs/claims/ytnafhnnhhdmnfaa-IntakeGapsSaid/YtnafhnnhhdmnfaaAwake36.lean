/- The chapter's examples, run. -/
import Derived.Test.YtnafhnnhhdmnfaaOf36
namespace Go.Proofs.Ytnafhnnhhdmnfaa
set_option linter.all false
open Go.Idl
theorem good0 : Idl.Good Try.prog (fun _ => none) := good_none (by kernel_rfl)
theorem cons36 : Contract Try.prog 34 SBounds ∧ Contract Try.prog 13 SPut ∧ Contract Try.prog 18 SOf ∧ Contract Try.prog 11 SCol ∧ Contract Try.prog 12 SCol ∧ Contract Try.prog 26 SEv ∧ Contract Try.prog 31 SEv ∧ Contract Try.prog 36 SSame ∧ Contract Try.prog 39 SSame ∧ Contract Try.prog 35 SIndex ∧ Contract Try.prog 28 SKey ∧ Contract Try.prog 30 SContra ∧ Contract Try.prog 29 SCmpT ∧ Contract Try.prog 32 SBef ∧ Contract Try.prog 33 SContraR ∧ Contract Try.prog 38 SOne := by
  have g := good0
  have g := g.add (by kernel_rfl) con56
  have g := g.add (facts_enters ic45) (con45 g rfl)
  have g := g.add (facts_enters ic55) (con55 g)
  have g := g.add (facts_enters ic44) (con44 g rfl)
  have g := g.add (facts_enters ic43) (con43 g)
  have g := g.add (facts_enters ic28) (con28 g)
  have g := g.add (facts_enters ic29) (con29 g rfl rfl)
  have g := g.add (facts_enters ic27) (con27 g rfl rfl rfl)
  have g := g.add (facts_enters ic34) (con34 g rfl rfl rfl rfl)
  have g := g.add (facts_enters ic35) (con35 g rfl)
  have g := g.add (facts_enters ic60) (con60 g)
  have g := g.add (facts_enters ic54) (con54 g)
  have g := g.add (facts_enters ic57) (con57 g rfl)
  have g := g.add (facts_enters ic40) (con40 g rfl)
  have g := g.add (facts_enters ic46) (con46 g rfl)
  have g := g.add (facts_enters ic41) (con41 g rfl)
  have g := g.add (facts_enters ic42) (con42 g)
  have g := g.add (facts_enters ic26) (con26 g rfl rfl rfl)
  have g := g.add (facts_enters ic47) (con47 g)
  have g := g.add (facts_enters ic61) (con61 g)
  have g := g.add (facts_enters ic48) (con48 g)
  have g := g.add (facts_enters ic58) (con58 g rfl rfl)
  have g := g.add (facts_enters ic49) (con49 g rfl)
  have g := g.add (facts_enters ic31) (con31 g rfl rfl rfl rfl)
  have g := g.add (facts_enters ic30) (con30 g)
  have g := g.add (facts_enters ic38) (con38 g)
  have g := g.add (facts_enters ic32) (con32 g)
  have g := g.add (facts_enters ic33) (con33 g rfl)
  have g := g.add (facts_enters ic52) (con52 g)
  have g := g.add (facts_enters ic53) (con53 g)
  have g := g.add (facts_enters ic36) (con36 g rfl)
  have g := g.add (facts_enters ic39) (con39 g rfl)
  exact ⟨con34 g rfl rfl rfl rfl, con13 g rfl rfl rfl rfl rfl rfl rfl, con18 g rfl rfl, con11 g rfl rfl rfl rfl rfl, con12 g rfl rfl rfl, con26 g rfl rfl rfl, con31 g rfl rfl rfl rfl, con36 g rfl, con39 g rfl, con35 g rfl, con28 g, con30 g, con29 g rfl rfl, con32 g, con33 g rfl, con38 g⟩
theorem C34 : Contract Try.prog 34 SBounds := cons36.1
theorem C13 : Contract Try.prog 13 SPut := cons36.2.1
theorem C18 : Contract Try.prog 18 SOf := cons36.2.2.1
theorem C11 : Contract Try.prog 11 SCol := cons36.2.2.2.1
theorem C12 : Contract Try.prog 12 SCol := cons36.2.2.2.2.1
theorem C26 : Contract Try.prog 26 SEv := cons36.2.2.2.2.2.1
theorem C31 : Contract Try.prog 31 SEv := cons36.2.2.2.2.2.2.1
theorem C36 : Contract Try.prog 36 SSame := cons36.2.2.2.2.2.2.2.1
theorem C39 : Contract Try.prog 39 SSame := cons36.2.2.2.2.2.2.2.2.1
theorem C35 : Contract Try.prog 35 SIndex := cons36.2.2.2.2.2.2.2.2.2.1
theorem C28 : Contract Try.prog 28 SKey := cons36.2.2.2.2.2.2.2.2.2.2.1
theorem C30 : Contract Try.prog 30 SContra := cons36.2.2.2.2.2.2.2.2.2.2.2.1
theorem C29 : Contract Try.prog 29 SCmpT := cons36.2.2.2.2.2.2.2.2.2.2.2.2.1
theorem C32 : Contract Try.prog 32 SBef := cons36.2.2.2.2.2.2.2.2.2.2.2.2.2.1
theorem C33 : Contract Try.prog 33 SContraR := cons36.2.2.2.2.2.2.2.2.2.2.2.2.2.2.1
theorem C38 : Contract Try.prog 38 SOne := cons36.2.2.2.2.2.2.2.2.2.2.2.2.2.2.2
def base36 : Specs := add (add (add (add (add (fun _ => none) 56 Fcmp) 34 SBounds) 13 SPut) 18 SOf) 35 SIndex
theorem goodB36 : Idl.Good Try.prog base36 := ((((good0.add (by kernel_rfl) con56).add (facts_enters ic34) C34).add (facts_enters ic13) C13).add (facts_enters ic18) C18).add (facts_enters ic35) C35
def fns : List Nat := [10, 11, 16, 20, 21, 22, 25, 26, 27, 28, 29, 30, 40, 41, 42, 43, 44, 45, 54, 55]
theorem fns_ok : fns.all (fnOk Try.prog) = true := by kernel_rfl
theorem awake_run : runFn Try.prog (Runs Try.prog fns base36 1000 10) 1000 10 [] = some (.sc (.bool true)) := by kernel_rfl
theorem conAw : Contract Try.prog 10 (FT fun (_ : Unit) => some true) := aw_of (runFn_contract (Runs_good goodB36 fns_ok 1000 10) (List.all_eq_true.1 fns_ok _ (by decide)) 1000) awake_run
end Go.Proofs.Ytnafhnnhhdmnfaa
