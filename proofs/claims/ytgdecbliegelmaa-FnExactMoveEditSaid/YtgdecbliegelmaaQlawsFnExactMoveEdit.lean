-- Written by wip/myprint.py (this session's) over the kit's print: not the kit's own print.
import Derived.Test.YtgdecbliegelmaaQ0
import Derived.Test.YtgdecbliegelmaaQlawsszTextEdit
import Derived.Test.YtgdecbliegelmaaQlawstoTextEdit
import Derived.Test.YtgdecbliegelmaaQlawseqTextEdit
import Derived.Test.YtgdecbliegelmaaQspecMoveEdit
import Derived.Test.YtgdecbliegelmaaQimplMoveEdit
import Derived.Test.YtgdecbliegelmaaQlawsFnExactMoveEditT
import Derived.Test.YtgdecbliegelmaaQlawsFnExactMoveEditF
namespace Go.Proofs.Ytgdecbliegelmaa.Q
open Go.RowKit Go.Proofs.YtgdecbliegelmaaW.PrintWords Go.Proofs.YtgdecbliegelmaaW.PrintLast Go.Proofs.YtgdecbliegelmaaW.PrintMore
attribute [local go_sem] max2_int min2_int max_two min_two max_three min_three max_four min_four   -- for this text's walks alone
set_option linter.unusedVariables false
set_option linter.unusedSimpArgs false
theorem laws_FnExactMoveEdit.calls (k : Nat) (a0_0 : Int) (a0_1 : Int) (a0_2 : ByteArray) (a1_0 : Int) (a1_1 : Int) (a1_2 : ByteArray) (r : Bool) (w : World) (h : laws_FnExactMoveEdit.f k a0_0 a0_1 a0_2 a1_0 a1_1 a1_2 = some r) :
    Calls Try.prog 4 #[.agg #[.int .i64 a0_0, .int .i64 a0_1, .string a0_2], .agg #[.int .i64 a1_0, .int .i64 a1_1, .string a1_2]] w fun e w' => e = .returned (.bool r) ∧ Below w.heap.size w w' := by
 cases r
 · exact laws_FnExactMoveEdit.calls_f k a0_0 a0_1 a0_2 a1_0 a1_1 a1_2 w h
 · exact laws_FnExactMoveEdit.calls_t k a0_0 a0_1 a0_2 a1_0 a1_1 a1_2 w h
end Go.Proofs.Ytgdecbliegelmaa.Q
