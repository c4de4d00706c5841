/- What was proved by hand, told as printed contracts: trees, draws. -/
import Derived.Test.YtegpjjnedbbpjaaSyU
import Derived.Test.YtegpjjnedbbpjaaTrT
import Derived.Test.YtegpjjnedbbpjaaTrQ
set_option linter.unusedVariables false
set_option linter.unusedSimpArgs false
namespace Go.Proofs.Ytegpjjnedbbpjaa.Z
open Go Go.RowKit Go.Proofs.Sy Go.Proofs
set_option maxRecDepth 100000
def m_impl_TreeOK (n : Nat) (t : Tree) : Option Bool := gp (wt t ≤ 1099511627776) <| some (okT t)
theorem c_impl_TreeOK (n : Nat) (t : Tree) (r : Bool) (h : m_impl_TreeOK n t = some r) : FnP Try.prog 67 [t.enc] [B r] := by
  obtain ⟨g, h⟩ := gpT h; cases h; exact iTreeOK t g
def m_spec_TreeOK (n : Nat) (t : Tree) : Option Bool := gp (wt t ≤ 1099511627776) <| some (okT t)
theorem c_spec_TreeOK (n : Nat) (t : Tree) (r : Bool) (h : m_spec_TreeOK n t = some r) : FnP Try.prog 62 [t.enc] [B r] := by
  obtain ⟨g, h⟩ := gpT h; cases h; exact sTreeOK t g
def m_laws_sameTree (n : Nat) (a b : Tree) : Option Bool := gp (wt a ≤ 1099511627776) <| some (same a b)
theorem c_laws_sameTree (n : Nat) (a b : Tree) (r : Bool) (h : m_laws_sameTree n a b = some r) : FnP Try.prog 24 [a.enc, b.enc] [B r] := by
  obtain ⟨g, h⟩ := gpT h; cases h; exact cSame a b g
def cu0 (code : List UInt8) (h : code.length ≤ 2147483648) : Cu := ⟨code, 0, 17 + code.length, by omega⟩
def m_spec_l01DrawCur (n : Nat) (code : List UInt8) : Option Cu := if h : code.length ≤ 2147483648 then some (cu0 code h) else none
theorem c_spec_l01DrawCur (n : Nat) (code : List UInt8) (r : Cu) (h : m_spec_l01DrawCur n code = some r) : Sy.Fn Try.prog 75 [.p (.lst (bl code))] [] (fun rs τ' => rs = [.ptr 0 0] ∧ τ' = [.box 213 [.p (.lst (bl r.code)), .p (I r.at_), .p (I r.seed)]]) := by
  unfold m_spec_l01DrawCur at h
  split at h
  · rename_i hc; cases h; exact cCur code hc
  · cases h
def m_spec_l01DrawAny (n : Nat) (c : Cu) : Option (Tree × Cu) := some (anyM c)
theorem c_spec_l01DrawAny (n : Nat) (c : Cu) (r : Tree × Cu) (h : m_spec_l01DrawAny n c = some r) : Sy.Fn Try.prog 79 [.ptr 0 0] [.box 213 [.p (.lst (bl c.code)), .p (I c.at_), .p (I c.seed)]] (fun rs τ' => rs = [.p r.1.enc] ∧ τ' = [.box 213 [.p (.lst (bl r.2.code)), .p (I r.2.at_), .p (I r.2.seed)]]) := by
  cases h; exact cAny c tree_hb
def m_spec_l01Cur_byte (n : Nat) (c : Cu) : Option (Int × Cu) := some (byteM c)
theorem c_spec_l01Cur_byte (n : Nat) (c : Cu) (r : Int × Cu) (h : m_spec_l01Cur_byte n c = some r) : Sy.Fn Try.prog 158 [.ptr 0 0] [.box 213 [.p (.lst (bl c.code)), .p (I c.at_), .p (I c.seed)]] (fun rs τ' => rs = [.p (I r.1)] ∧ τ' = [.box 213 [.p (.lst (bl r.2.code)), .p (I r.2.at_), .p (I r.2.seed)]]) := by
  cases h; exact cByte c
def m_spec_l01Cur_pick (n : Nat) (c : Cu) (k : Int) : Option (Int × Cu) := some (pickM k c)
theorem c_spec_l01Cur_pick (n : Nat) (c : Cu) (k : Int) (r : Int × Cu) (h : m_spec_l01Cur_pick n c k = some r) : Sy.Fn Try.prog 78 [.ptr 0 0, .p (I k)] [.box 213 [.p (.lst (bl c.code)), .p (I c.at_), .p (I c.seed)]] (fun rs τ' => rs = [.p (I r.1)] ∧ τ' = [.box 213 [.p (.lst (bl r.2.code)), .p (I r.2.at_), .p (I r.2.seed)]]) := by
  cases h; exact cPick k c
def m_spec_l01Cur_size (n : Nat) (c : Cu) (k : Int) : Option (Int × Cu) := gp (0 ≤ k ∧ k ≤ 1000000) <| some (sizeM k c)
theorem c_spec_l01Cur_size (n : Nat) (c : Cu) (k : Int) (r : Int × Cu) (h : m_spec_l01Cur_size n c k = some r) : Sy.Fn Try.prog 160 [.ptr 0 0, .p (I k)] [.box 213 [.p (.lst (bl c.code)), .p (I c.at_), .p (I c.seed)]] (fun rs τ' => rs = [.p (I r.1)] ∧ τ' = [.box 213 [.p (.lst (bl r.2.code)), .p (I r.2.at_), .p (I r.2.seed)]]) := by
  obtain ⟨g, h⟩ := gpT h; cases h; exact cSize k c g
end Go.Proofs.Ytegpjjnedbbpjaa.Z
