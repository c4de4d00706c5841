/- How the arguments of laws.FnExactProgramShow are read. -/
import Derived.Test.YtnnalcglfgapbaaDoorSyN
import Derived.Test.YtnnalcglfgapbaaDoorPs0
set_option linter.unusedVariables false
set_option maxRecDepth 100000
namespace Go.Proofs.YtnnalcglfgapbaaDoor.Z
open Go Go.RowKit Go.Proofs.Sy Go.Proofs
def W_gIns (x : gIns) : Prop := (-9223372036854775808 ≤ x.op_ ∧ x.op_ ≤ 9223372036854775807) ∧ (-9223372036854775808 ≤ x.n_ ∧ x.n_ ≤ 9223372036854775807) ∧ (-9223372036854775808 ≤ x.to_ ∧ x.to_ ≤ 9223372036854775807)
theorem o_gIns (n : Nat) : OpensN Tryd.prog n 40 gIns.enc W_gIns := by
  have h0 : OpensN Tryd.prog n 40 (fun p => PV.agg ((fun p : (Int) × (Int) × (Int) × Unit => (I p.1).cs ++ (fun p : (Int) × (Int) × Unit => (I p.1).cs ++ (fun p : (Int) × Unit => (I p.1).cs ++ (fun _ : Unit => ([] : List PV)) p.2) p.2) p.2) p)) (fun p : (Int) × (Int) × (Int) × Unit => (fun x : Int => (-9223372036854775808 ≤ x ∧ x ≤ 9223372036854775807)) p.1 ∧ (fun p : (Int) × (Int) × Unit => (fun x : Int => (-9223372036854775808 ≤ x ∧ x ≤ 9223372036854775807)) p.1 ∧ (fun p : (Int) × Unit => (fun x : Int => (-9223372036854775808 ≤ x ∧ x ≤ 9223372036854775807)) p.1 ∧ (fun _ : Unit => True) p.2) p.2) p.2) := by
    refine opens_struct (tot := 3) Tryd.underlying40 (by kernel_rfl) (fun m_ hm_ => ?_)
    refine opensF_cons (e := I) (B := fun x : Int => (-9223372036854775808 ≤ x ∧ x ≤ 9223372036854775807)) (e' := (fun p : (Int) × (Int) × Unit => (I p.1).cs ++ (fun p : (Int) × Unit => (I p.1).cs ++ (fun _ : Unit => ([] : List PV)) p.2) p.2)) (B' := (fun p : (Int) × (Int) × Unit => (fun x : Int => (-9223372036854775808 ≤ x ∧ x ≤ 9223372036854775807)) p.1 ∧ (fun p : (Int) × Unit => (fun x : Int => (-9223372036854775808 ≤ x ∧ x ≤ 9223372036854775807)) p.1 ∧ (fun _ : Unit => True) p.2) p.2)) (sz := 1) rfl (by kernel_rfl) ?_ ?_
    · exact (opens_i64 Tryd.underlying3)
    refine opensF_cons (e := I) (B := fun x : Int => (-9223372036854775808 ≤ x ∧ x ≤ 9223372036854775807)) (e' := (fun p : (Int) × Unit => (I p.1).cs ++ (fun _ : Unit => ([] : List PV)) p.2)) (B' := (fun p : (Int) × Unit => (fun x : Int => (-9223372036854775808 ≤ x ∧ x ≤ 9223372036854775807)) p.1 ∧ (fun _ : Unit => True) p.2)) (sz := 1) rfl (by kernel_rfl) ?_ ?_
    · exact (opens_i64 Tryd.underlying3)
    refine opensF_cons (e := I) (B := fun x : Int => (-9223372036854775808 ≤ x ∧ x ≤ 9223372036854775807)) (e' := (fun _ : Unit => ([] : List PV))) (B' := (fun _ : Unit => True)) (sz := 1) rfl (by kernel_rfl) ?_ ?_
    · exact (opens_i64 Tryd.underlying3)
    exact opensF_nil
  exact @opens_map _ _ _ _ _ (fun p => PV.agg ((fun p : (Int) × (Int) × (Int) × Unit => (I p.1).cs ++ (fun p : (Int) × (Int) × Unit => (I p.1).cs ++ (fun p : (Int) × Unit => (I p.1).cs ++ (fun _ : Unit => ([] : List PV)) p.2) p.2) p.2) p)) gIns.enc (fun p : (Int) × (Int) × (Int) × Unit => (fun x : Int => (-9223372036854775808 ≤ x ∧ x ≤ 9223372036854775807)) p.1 ∧ (fun p : (Int) × (Int) × Unit => (fun x : Int => (-9223372036854775808 ≤ x ∧ x ≤ 9223372036854775807)) p.1 ∧ (fun p : (Int) × Unit => (fun x : Int => (-9223372036854775808 ≤ x ∧ x ≤ 9223372036854775807)) p.1 ∧ (fun _ : Unit => True) p.2) p.2) p.2) W_gIns (fun p : (Int) × (Int) × (Int) × Unit => (⟨p.1, p.2.1, p.2.2.1⟩ : gIns)) (fun p => rfl) (fun p h => ⟨h.1, h.2.1, h.2.2.1⟩) @h0
end Go.Proofs.YtnnalcglfgapbaaDoor.Z
