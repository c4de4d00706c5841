/- What was proved by hand, told as printed contracts: trees. -/
import Derived.Test.YtgdecbliegelmaaSyU
import Derived.Test.YtgdecbliegelmaaTrU
import Derived.Test.YtgdecbliegelmaaTrQ
import Derived.Test.YtgdecbliegelmaaTrL
set_option linter.unusedVariables false
set_option linter.unusedSimpArgs false
namespace Go.Proofs.Ytgdecbliegelmaa.Z
open Go Go.RowKit Go.Proofs.Sy Go.Proofs
set_option maxRecDepth 100000
def m_impl_TreeOK (n : Nat) (t : Tree) : Option Bool := gp (wt t ≤ 1099511627776) <| some (okT t)
theorem c_impl_TreeOK (n : Nat) (t : Tree) (r : Bool) (h : m_impl_TreeOK n t = some r) : FnP Try.prog 76 [t.enc] [B r] := by
  obtain ⟨g, h⟩ := gpT h; cases h; exact iTreeOK t g
def m_spec_TreeOK (n : Nat) (t : Tree) : Option Bool := gp (wt t ≤ 1099511627776) <| some (okT t)
theorem c_spec_TreeOK (n : Nat) (t : Tree) (r : Bool) (h : m_spec_TreeOK n t = some r) : FnP Try.prog 73 [t.enc] [B r] := by
  obtain ⟨g, h⟩ := gpT h; cases h; exact sTreeOK t g
def m_spec_l01Show (n : Nat) (t : Tree) : Option ByteArray := gp (wt t ≤ 1099511627776) <| some (shw t)
theorem c_spec_l01Show (n : Nat) (t : Tree) (r : ByteArray) (h : m_spec_l01Show n t = some r) : FnP Try.prog 74 [t.enc] [S r] := by
  obtain ⟨g, h⟩ := gpT h; cases h; exact sShow t g
def m_impl_text (n : Nat) (t : Tree) : Option ByteArray := gp (8 * wt t ≤ 10000000000000 ∧ 0 < t.nm.size) <| some (shw t)
theorem c_impl_text (n : Nat) (t : Tree) (r : ByteArray) (h : m_impl_text n t = some r) : FnP Try.prog 77 [t.enc] [S r] := by
  obtain ⟨g, h⟩ := gpT h; cases h; exact iText t g.1 g.2
def m_laws_sameTree (n : Nat) (a b : Tree) : Option Bool := gp (wt a ≤ 1099511627776) <| some (same a b)
theorem c_laws_sameTree (n : Nat) (a b : Tree) (r : Bool) (h : m_laws_sameTree n a b = some r) : FnP Try.prog 56 [a.enc, b.enc] [B r] := by
  obtain ⟨g, h⟩ := gpT h; cases h; exact cSame a b g
def cu0 (code : List UInt8) (h : code.length ≤ 2147483648) : Cu := ⟨code, 0, 17 + code.length, by omega⟩
def m_spec_l01DrawCur (n : Nat) (code : List UInt8) : Option Cu := if h : code.length ≤ 2147483648 then some (cu0 code h) else none
theorem c_spec_l01DrawCur (n : Nat) (code : List UInt8) (r : Cu) (h : m_spec_l01DrawCur n code = some r) : Sy.Fn Try.prog 70 [.p (.lst (bl code))] [] (fun rs τ' => rs = [.ptr 0 0] ∧ τ' = [.box 135 [.p (.lst (bl r.code)), .p (I r.at_), .p (I r.seed)]]) := by
  unfold m_spec_l01DrawCur at h
  split at h
  · rename_i hc; cases h; exact cCur code hc
  · cases h
def m_spec_l01DrawAny (n : Nat) (c : Cu) : Option (Tree × Cu) := some (anyM c)
theorem c_spec_l01DrawAny (n : Nat) (c : Cu) (r : Tree × Cu) (h : m_spec_l01DrawAny n c = some r) : Sy.Fn Try.prog 93 [.ptr 0 0] [.box 135 [.p (.lst (bl c.code)), .p (I c.at_), .p (I c.seed)]] (fun rs τ' => rs = [.p r.1.enc] ∧ τ' = [.box 135 [.p (.lst (bl r.2.code)), .p (I r.2.at_), .p (I r.2.seed)]]) := by
  cases h; exact cAny c tree_hb
end Go.Proofs.Ytgdecbliegelmaa.Z
