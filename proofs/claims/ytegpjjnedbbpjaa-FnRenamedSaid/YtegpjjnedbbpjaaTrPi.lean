/- Lists of numbers. -/
import Derived.Test.YtegpjjnedbbpjaaTrO
set_option linter.unusedVariables false
set_option linter.unusedSimpArgs false
namespace Go.Proofs.Ytegpjjnedbbpjaa.Z
open Go Go.RowKit Go.Proofs.Sy Go.Proofs
set_option maxRecDepth 100000
def il (p : List Int) : List PV := p.map I
theorem il_len (p : List Int) : (il p).length = p.length := List.length_map ..
theorem il_app (p q : List Int) : il (p ++ q) = il p ++ il q := List.map_append ..
theorem row_allI (p : List Int) : 0 + p.length ≤ (il p).length ∧ ((il p).drop 0).take p.length = il p := row_all' (il p) p.length (il_len p).symm
theorem appfitI (n m : Nat) (h : n + m ≤ 10000000000000) : (n + m) * 8 ≤ 140737488355328 ∧ n + m ≤ 9223372036854775807 := ⟨by omega, by omega⟩
end Go.Proofs.Ytegpjjnedbbpjaa.Z
