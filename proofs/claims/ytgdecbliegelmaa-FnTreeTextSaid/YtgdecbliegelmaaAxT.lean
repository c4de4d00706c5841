/- Printed: models and contracts. -/
import Derived.Test.YtgdecbliegelmaaGvA
set_option linter.unusedVariables false
set_option linter.unusedSimpArgs false
set_option maxRecDepth 100000
namespace Go.Proofs.Ytgdecbliegelmaa.Z
open Go Go.RowKit Go.Proofs.Sy Go.Proofs
structure gtreeReader where
  s_ : ByteArray
  i_ : Int
def gtreeReader.enc (x : gtreeReader) : PV := .agg [S x.s_, I x.i_]
def m_laws_big (n : Nat) (a1 : List UInt8) : Option Bool :=
  some (decide (((bl a1).length : Int) > 1048576))
theorem c_laws_big (n : Nat) (a1 : List UInt8) (r : Bool) (h : m_laws_big n a1 = some r) : FnP Try.prog 26 [.lst (bl a1)] [B r] := by
  unfold m_laws_big at h
  refine fn_introJ Try.func26 rfl rfl rfl ?_
  refine .inl ?_
  refine .inl ?_
  replace h := Option.some.inj h
  subst h
  exact ⟨[.p (B (decide (((bl a1).length : Int) > 1048576)))], [], ⟨[], ⟨rfl, trivial⟩, trivial, rfl⟩, rfl, rfl, rfl⟩
def m_spec_TreeShow (n : Nat) (a2 : Tree) : Option (ByteArray × Int) :=
  (m_spec_TreeOK n a2).bind fun r1 =>
  bif (!r1) then (
    some (⟨#[]⟩, 1))
  else (
    (m_spec_l01Show n a2).bind fun r2 =>
    bif (decide ((r2.size : Int) > 20000)) then (
      some (⟨#[]⟩, 3))
    else (
      some (r2, 0)))
theorem c_spec_TreeShow (n : Nat) (a2 : Tree) (r : ByteArray × Int) (h : m_spec_TreeShow n a2 = some r) : FnP Try.prog 31 [a2.enc] [S r.1, I r.2] := by
  unfold m_spec_TreeShow at h
  refine fn_introJ Try.func31 rfl rfl rfl ?_
  refine .inl ?_
  refine .inl ?_
  refine .inl ?_
  obtain ⟨r1, hr1, h⟩ := bsm h
  refine callA (c_spec_TreeOK n a2 _ hr1) ?_
  refine And.intro (fun c => ?_) (fun c => ?_)
  · replace h := cT h c
    refine .inl ?_
    replace h := Option.some.inj h
    subst h
    exact ⟨[.p (S ⟨#[]⟩), .p (I 1)], [], ⟨[], ⟨rfl, rfl, trivial⟩, trivial, rfl⟩, rfl, rfl, rfl⟩
  · replace h := cF h c
    refine .inl ?_
    obtain ⟨r2, hr2, h⟩ := bsm h
    refine callA (c_spec_l01Show n a2 _ hr2) ?_
    refine .inl ?_
    refine .inl ?_
    refine And.intro (fun c => ?_) (fun c => ?_)
    · replace h := cT h c
      refine .inl ?_
      replace h := Option.some.inj h
      subst h
      exact ⟨[.p (S ⟨#[]⟩), .p (I 3)], [], ⟨[], ⟨rfl, rfl, trivial⟩, trivial, rfl⟩, rfl, rfl, rfl⟩
    · replace h := cF h c
      refine .inl ?_
      replace h := Option.some.inj h
      subst h
      exact ⟨[.p (S r2), .p (I 0)], [], ⟨[], ⟨rfl, rfl, trivial⟩, trivial, rfl⟩, rfl, rfl, rfl⟩
def m_impl_TreeShow (n : Nat) (a3 : Tree) : Option (ByteArray × Int) :=
  (m_impl_TreeOK n a3).bind fun r3 =>
  bif (!r3) then (
    some (⟨#[]⟩, 1))
  else (
    (m_impl_text n a3).bind fun r4 =>
    bif (decide ((r4.size : Int) > 20000)) then (
      some (⟨#[]⟩, 3))
    else (
      some (r4, 0)))
theorem c_impl_TreeShow (n : Nat) (a3 : Tree) (r : ByteArray × Int) (h : m_impl_TreeShow n a3 = some r) : FnP Try.prog 33 [a3.enc] [S r.1, I r.2] := by
  unfold m_impl_TreeShow at h
  refine fn_introJ Try.func33 rfl rfl rfl ?_
  refine .inl ?_
  refine .inl ?_
  refine .inl ?_
  obtain ⟨r3, hr3, h⟩ := bsm h
  refine callA (c_impl_TreeOK n a3 _ hr3) ?_
  refine And.intro (fun c => ?_) (fun c => ?_)
  · replace h := cT h c
    refine .inl ?_
    replace h := Option.some.inj h
    subst h
    exact ⟨[.p (S ⟨#[]⟩), .p (I 1)], [], ⟨[], ⟨rfl, rfl, trivial⟩, trivial, rfl⟩, rfl, rfl, rfl⟩
  · replace h := cF h c
    refine .inl ?_
    obtain ⟨r4, hr4, h⟩ := bsm h
    refine callA (c_impl_text n a3 _ hr4) ?_
    refine .inl ?_
    refine .inl ?_
    refine And.intro (fun c => ?_) (fun c => ?_)
    · replace h := cT h c
      refine .inl ?_
      replace h := Option.some.inj h
      subst h
      exact ⟨[.p (S ⟨#[]⟩), .p (I 3)], [], ⟨[], ⟨rfl, rfl, trivial⟩, trivial, rfl⟩, rfl, rfl, rfl⟩
    · replace h := cF h c
      refine .inl ?_
      replace h := Option.some.inj h
      subst h
      exact ⟨[.p (S r4), .p (I 0)], [], ⟨[], ⟨rfl, rfl, trivial⟩, trivial, rfl⟩, rfl, rfl, rfl⟩
def m_spec_DrawTreeShow (n : Nat) (a4 : List UInt8) : Option Tree :=
  (m_spec_l01DrawCur n a4).bind fun r5 =>
  (m_spec_l01DrawAny n r5).bind fun r6 =>
  some r6.1
theorem c_spec_DrawTreeShow (n : Nat) (a4 : List UInt8) (r : Tree) (h : m_spec_DrawTreeShow n a4 = some r) : FnP Try.prog 58 [.lst (bl a4)] [r.enc] := by
  unfold m_spec_DrawTreeShow at h
  refine fn_introJ Try.func58 rfl rfl rfl ?_
  refine .inl ?_
  refine .inl ?_
  obtain ⟨r5, hr5, h⟩ := bsm h
  refine callW (args' := [.p (.lst (bl a4))]) (τ0 := []) [] [] (c_spec_l01DrawCur n a4 _ hr5) (fun K hk => hk) rfl ⟨rfl, trivial⟩ trivial rfl ?_
  rintro rs τ' hl' ⟨rfl, rfl⟩
  obtain ⟨r6, hr6, h⟩ := bsm h
  refine callW (args' := [.ptr 0 0]) (τ0 := [.box 135 [.p (.lst (bl r5.code)), .p (I r5.at_), .p (I r5.seed)]]) [1] [] (c_spec_l01DrawAny n r5 _ hr6) (fun K hk => hk) rfl ⟨rfl, trivial⟩ ⟨⟨rfl, rfl, rfl, rfl, trivial⟩, trivial⟩ rfl ?_
  rintro rs τ' hl' ⟨rfl, rfl⟩
  replace h := Option.some.inj h
  subst h
  exact ⟨[.p (r6.1.enc)], [], ⟨[], ⟨rfl, trivial⟩, trivial, rfl⟩, rfl, rfl, rfl⟩
def m_impl_treeReader_at (n : Nat) (a5 : gtreeReader) : Option (Int × gtreeReader) :=
  bif (decide (a5.i_ < (a5.s_.size : Int))) then (
    gp (0 ≤ a5.i_ ∧ a5.i_ < (a5.s_.size : Int)) <|
    some ((wr .i64 (bt a5.s_ a5.i_)), a5))
  else (
    some ((-1), a5))
theorem c_impl_treeReader_at (n : Nat) (a5 : gtreeReader) (r : Int × gtreeReader) (h : m_impl_treeReader_at n a5 = some r) : Sy.Fn Try.prog 127 [.ptr 0 0] [.box 131 [.p (S a5.s_), .p (I a5.i_)]] (fun rs τ' => rs = [.p (I r.1)] ∧ τ' = [.box 131 [.p (S r.2.s_), .p (I r.2.i_)]]) := by
  unfold m_impl_treeReader_at at h
  refine fn_introJ Try.func127 rfl rfl rfl ?_
  refine .inl ?_
  refine .inl ?_
  refine .inl ?_
  refine ⟨[0, 1, 2, 3, 4, 5, 6, 7, 8, 9], [], by decide +kernel, ?_⟩
  refine And.intro (fun c => ?_) (fun c => ?_)
  · replace h := cT h c
    refine .inl ?_
    refine ⟨[0, 1, 2, 3, 4, 5, 6, 7, 8, 9, 10], [], by decide +kernel, ?_⟩
    obtain ⟨g2, h⟩ := gpT h
    refine And.intro g2 ?_
    replace h := Option.some.inj h
    subst h
    exact ⟨[.p (I (wr .i64 (bt a5.s_ a5.i_)))], [.box 131 [.p (S a5.s_), .p (I a5.i_)]], ⟨[], ⟨rfl, trivial⟩, ⟨⟨rfl, rfl, rfl, trivial⟩, trivial⟩, rfl⟩, rfl, rfl, rfl⟩
  · replace h := cF h c
    refine .inl ?_
    replace h := Option.some.inj h
    subst h
    exact ⟨[.p (I (-1))], [.box 131 [.p (S a5.s_), .p (I a5.i_)]], ⟨[], ⟨rfl, trivial⟩, ⟨⟨rfl, rfl, rfl, trivial⟩, trivial⟩, rfl⟩, rfl, rfl, rfl⟩
def m_impl_treeReader_blanks_j5 (a6 : gtreeReader) (v6 : gtreeReader) : Option (Bool × gtreeReader) :=
  some ((decide (v6.i_ > a6.i_)), v6)
def m_impl_treeReader_blanks_j9 (rec8 : gtreeReader → Option (Bool × gtreeReader)) (v11 : gtreeReader) : Option (Bool × gtreeReader) :=
  rec8 (gtreeReader.mk v11.s_ (wr .i64 (v11.i_ + 1)))
def m_impl_treeReader_blanks_l8 (n : Nat) (a6 : gtreeReader) : Nat → gtreeReader → Option (Bool × gtreeReader)
  | 0, _ => none
  | k8 + 1, v8 =>
    (m_impl_treeReader_at n v8).bind fun r29 =>
    bif (r29.1 == 32) then (
      m_impl_treeReader_blanks_j9 (m_impl_treeReader_blanks_l8 n a6 k8) r29.2)
    else (
      (m_impl_treeReader_at n r29.2).bind fun r30 =>
      bif (r30.1 == 10) then (
        m_impl_treeReader_blanks_j9 (m_impl_treeReader_blanks_l8 n a6 k8) r30.2)
      else (
        m_impl_treeReader_blanks_j5 a6 r30.2))
def m_impl_treeReader_blanks (n : Nat) (a6 : gtreeReader) : Option (Bool × gtreeReader) :=
  m_impl_treeReader_blanks_l8 n a6 n a6
theorem c_impl_treeReader_blanks (n : Nat) (a6 : gtreeReader) (r : Bool × gtreeReader) (h : m_impl_treeReader_blanks n a6 = some r) : Sy.Fn Try.prog 102 [.ptr 0 0] [.box 131 [.p (S a6.s_), .p (I a6.i_)]] (fun rs τ' => rs = [.p (B r.1)] ∧ τ' = [.box 131 [.p (S r.2.s_), .p (I r.2.i_)]]) := by
  unfold m_impl_treeReader_blanks at h
  refine fn_introJ Try.func102 rfl rfl rfl ?_
  refine .inl ?_
  refine .inl ?_
  refine .inr ⟨gtreeReader, fun x => ([(0, .ptr 0 0), (3, .p (I a6.i_))], [.box 131 [.p (S x.s_), .p (I x.i_)]]), fun x => m_impl_treeReader_blanks_j5 a6 x = some r, ?_, ?_⟩
  · refine ⟨gtreeReader, fun x => ([(0, .ptr 0 0), (3, .p (I a6.i_))], [.box 131 [.p (S x.s_), .p (I x.i_)]]), fun x k => m_impl_treeReader_blanks_l8 n a6 k x = some r, ⟨a6, n, h, [], ⟨rfl, rfl, trivial⟩, ⟨⟨rfl, rfl, rfl, trivial⟩, trivial⟩, rfl⟩, ?_⟩
    rintro v8 (_ | k8) h
    · exact ns h
    unfold m_impl_treeReader_blanks_l8 at h
    refine .inr ⟨gtreeReader, fun x => ([(0, .ptr 0 0), (3, .p (I a6.i_))], [.box 131 [.p (S x.s_), .p (I x.i_)]]), fun x => m_impl_treeReader_blanks_j9 (m_impl_treeReader_blanks_l8 n a6 k8) x = some r, ?_, ?_⟩
    · refine .inl ?_
      obtain ⟨r29, hr29, h⟩ := bsm h
      refine callW (args' := [.ptr 0 0]) (τ0 := [.box 131 [.p (S v8.s_), .p (I v8.i_)]]) [0] [] (c_impl_treeReader_at n v8 _ hr29) (fun K hk => hk) rfl ⟨rfl, trivial⟩ ⟨⟨rfl, rfl, rfl, trivial⟩, trivial⟩ rfl ?_
      rintro rs τ' hl' ⟨rfl, rfl⟩
      refine And.intro (fun c => ?_) (fun c => ?_)
      · replace h := cF h c
        refine And.intro (fun _ => ?_) (fun c => absurd c (by decide))
        obtain ⟨r30, hr30, h⟩ := bsm h
        refine callW (args' := [.ptr 0 0]) (τ0 := [.box 131 [.p (S r29.2.s_), .p (I r29.2.i_)]]) [0] [] (c_impl_treeReader_at n r29.2 _ hr30) (fun K hk => hk) rfl ⟨rfl, trivial⟩ ⟨⟨rfl, rfl, rfl, trivial⟩, trivial⟩ rfl ?_
        rintro rs τ' hl' ⟨rfl, rfl⟩
        refine And.intro (fun _ => ?_) (fun c => absurd c (by decide))
        refine And.intro (fun c => absurd c (by decide)) (fun _ => ?_)
        refine And.intro (fun c => ?_) (fun c => ?_)
        · replace h := cT h c
          exact ⟨r30.2, h, [], ⟨rfl, rfl, trivial⟩, ⟨⟨rfl, rfl, rfl, trivial⟩, trivial⟩, rfl⟩
        · replace h := cF h c
          exact ⟨r30.2, h, [], ⟨rfl, rfl, trivial⟩, ⟨⟨rfl, rfl, rfl, trivial⟩, trivial⟩, rfl⟩
      · replace h := cT h c
        refine And.intro (fun c => absurd c (by decide)) (fun _ => ?_)
        refine And.intro (fun c => absurd c (by decide)) (fun _ => ?_)
        refine And.intro (fun _ => ?_) (fun c => absurd c (by decide))
        refine And.intro (fun _ => ?_) (fun c => absurd c (by decide))
        exact ⟨r29.2, h, [], ⟨rfl, rfl, trivial⟩, ⟨⟨rfl, rfl, rfl, trivial⟩, trivial⟩, rfl⟩
    · rintro v11 h
      unfold m_impl_treeReader_blanks_j9 at h
      exact ⟨(gtreeReader.mk v11.s_ (wr .i64 (v11.i_ + 1))), k8, h, Nat.lt_succ_self _, [], ⟨rfl, rfl, trivial⟩, ⟨⟨rfl, rfl, rfl, trivial⟩, trivial⟩, rfl⟩
  · rintro v6 h
    unfold m_impl_treeReader_blanks_j5 at h
    refine .inl ?_
    replace h := Option.some.inj h
    subst h
    exact ⟨[.p (B (decide (v6.i_ > a6.i_)))], [.box 131 [.p (S v6.s_), .p (I v6.i_)]], ⟨[], ⟨rfl, trivial⟩, ⟨⟨rfl, rfl, rfl, trivial⟩, trivial⟩, rfl⟩, rfl, rfl, rfl⟩
def m_impl_treeReader_bad (n : Nat) (a7 : gtreeReader) : Option (Ou (gtreeReader)) :=
  some (.pan a7.i_)
theorem c_impl_treeReader_bad (n : Nat) (a7 : gtreeReader) (r : Ou (gtreeReader)) (h : m_impl_treeReader_bad n a7 = some r) : FnE Try.prog 104 [.ptr 0 0] [.box 131 [.p (S a7.s_), .p (I a7.i_)]] (fun rs τ' => ∃ x, r = .ok x ∧ rs = [] ∧ τ' = [.box 131 [.p (S x.s_), .p (I x.i_)]]) (fun v τ' => ∃ e, r = .pan e ∧ v = (.iface 127 (.agg #[.int .i64 e])) ∧ τ' = [.box 131 [.dead, .dead]]) := by
  unfold m_impl_treeReader_bad at h
  refine fn_introJE Try.func104 rfl rfl rfl ?_
  replace h := Option.some.inj h
  subst h
  exact ⟨[.box 131 [.dead, .dead]], ⟨⟨⟨rfl, trivial, trivial, trivial⟩, trivial⟩, rfl⟩, _, rfl, rfl, rfl⟩
def m_impl_isLetter (n : Nat) (a8 : Int) : Option Bool :=
  bif (decide (a8 ≥ 97)) then (
    bif (decide (a8 ≤ 122)) then (
      some true)
    else (
      bif (decide (a8 ≥ 65)) then (
        some (decide (a8 ≤ 90)))
      else (
        some false)))
  else (
    bif (decide (a8 ≥ 65)) then (
      some (decide (a8 ≤ 90)))
    else (
      some false))
theorem c_impl_isLetter (n : Nat) (a8 : Int) (r : Bool) (h : m_impl_isLetter n a8 = some r) : FnP Try.prog 138 [.raw (.int .u8 a8)] [B r] := by
  unfold m_impl_isLetter at h
  refine fn_introJ Try.func138 rfl rfl rfl ?_
  refine .inl ?_
  refine .inl ?_
  refine And.intro (fun c => ?_) (fun c => ?_)
  · replace h := cT h c
    refine And.intro (fun _ => ?_) (fun c => absurd c (by decide))
    refine And.intro (fun _ => ?_) (fun c => absurd c (by decide))
    refine And.intro (fun c => ?_) (fun c => ?_)
    · replace h := cF h c
      refine And.intro (fun _ => ?_) (fun c => absurd c (by decide))
      refine And.intro (fun _ => ?_) (fun c => absurd c (by decide))
      refine And.intro (fun c => ?_) (fun c => ?_)
      · replace h := cT h c
        refine And.intro (fun _ => ?_) (fun c => absurd c (by decide))
        refine And.intro (fun _ => ?_) (fun c => absurd c (by decide))
        refine And.intro (fun _ => ?_) (fun c => absurd c (by decide))
        refine And.intro (fun c => absurd c (by decide)) (fun _ => ?_)
        replace h := Option.some.inj h
        subst h
        exact ⟨[.p (B (decide (a8 ≤ 90)))], [], ⟨[], ⟨rfl, trivial⟩, trivial, rfl⟩, rfl, rfl, rfl⟩
      · replace h := cF h c
        refine And.intro (fun c => absurd c (by decide)) (fun _ => ?_)
        refine And.intro (fun _ => ?_) (fun c => absurd c (by decide))
        refine And.intro (fun c => absurd c (by decide)) (fun _ => ?_)
        refine And.intro (fun c => absurd c (by decide)) (fun _ => ?_)
        replace h := Option.some.inj h
        subst h
        exact ⟨[.p (B false)], [], ⟨[], ⟨rfl, trivial⟩, trivial, rfl⟩, rfl, rfl, rfl⟩
    · replace h := cT h c
      refine And.intro (fun c => absurd c (by decide)) (fun _ => ?_)
      refine And.intro (fun c => absurd c (by decide)) (fun _ => ?_)
      refine And.intro (fun c => absurd c (by decide)) (fun _ => ?_)
      refine And.intro (fun _ => ?_) (fun c => absurd c (by decide))
      replace h := Option.some.inj h
      subst h
      exact ⟨[.p (B true)], [], ⟨[], ⟨rfl, trivial⟩, trivial, rfl⟩, rfl, rfl, rfl⟩
  · replace h := cF h c
    refine And.intro (fun c => absurd c (by decide)) (fun _ => ?_)
    refine And.intro (fun c => absurd c (by decide)) (fun _ => ?_)
    refine And.intro (fun _ => ?_) (fun c => absurd c (by decide))
    refine And.intro (fun _ => ?_) (fun c => absurd c (by decide))
    refine And.intro (fun _ => ?_) (fun c => absurd c (by decide))
    refine And.intro (fun c => ?_) (fun c => ?_)
    · replace h := cT h c
      refine And.intro (fun _ => ?_) (fun c => absurd c (by decide))
      refine And.intro (fun _ => ?_) (fun c => absurd c (by decide))
      refine And.intro (fun _ => ?_) (fun c => absurd c (by decide))
      refine And.intro (fun c => absurd c (by decide)) (fun _ => ?_)
      replace h := Option.some.inj h
      subst h
      exact ⟨[.p (B (decide (a8 ≤ 90)))], [], ⟨[], ⟨rfl, trivial⟩, trivial, rfl⟩, rfl, rfl, rfl⟩
    · replace h := cF h c
      refine And.intro (fun c => absurd c (by decide)) (fun _ => ?_)
      refine And.intro (fun _ => ?_) (fun c => absurd c (by decide))
      refine And.intro (fun c => absurd c (by decide)) (fun _ => ?_)
      refine And.intro (fun c => absurd c (by decide)) (fun _ => ?_)
      replace h := Option.some.inj h
      subst h
      exact ⟨[.p (B false)], [], ⟨[], ⟨rfl, trivial⟩, trivial, rfl⟩, rfl, rfl, rfl⟩
def m_impl_isDigit (n : Nat) (a9 : Int) : Option Bool :=
  bif (decide (a9 ≥ 48)) then (
    some (decide (a9 ≤ 57)))
  else (
    some false)
theorem c_impl_isDigit (n : Nat) (a9 : Int) (r : Bool) (h : m_impl_isDigit n a9 = some r) : FnP Try.prog 144 [.raw (.int .u8 a9)] [B r] := by
  unfold m_impl_isDigit at h
  refine fn_introJ Try.func144 rfl rfl rfl ?_
  refine .inl ?_
  refine .inl ?_
  refine And.intro (fun c => ?_) (fun c => ?_)
  · replace h := cT h c
    refine And.intro (fun _ => ?_) (fun c => absurd c (by decide))
    refine And.intro (fun _ => ?_) (fun c => absurd c (by decide))
    replace h := Option.some.inj h
    subst h
    exact ⟨[.p (B (decide (a9 ≤ 57)))], [], ⟨[], ⟨rfl, trivial⟩, trivial, rfl⟩, rfl, rfl, rfl⟩
  · replace h := cF h c
    refine And.intro (fun c => absurd c (by decide)) (fun _ => ?_)
    refine And.intro (fun c => absurd c (by decide)) (fun _ => ?_)
    replace h := Option.some.inj h
    subst h
    exact ⟨[.p (B false)], [], ⟨[], ⟨rfl, trivial⟩, trivial, rfl⟩, rfl, rfl, rfl⟩
def m_impl_inName (n : Nat) (a10 : Int) : Option Bool :=
  (m_impl_isLetter n a10).bind fun r31 =>
  bif r31 then (
    some true)
  else (
    (m_impl_isDigit n a10).bind fun r32 =>
    bif r32 then (
      some true)
    else (
      some (a10 == 95)))
theorem c_impl_inName (n : Nat) (a10 : Int) (r : Bool) (h : m_impl_inName n a10 = some r) : FnP Try.prog 139 [.raw (.int .u8 a10)] [B r] := by
  unfold m_impl_inName at h
  refine fn_introJ Try.func139 rfl rfl rfl ?_
  refine .inl ?_
  refine .inl ?_
  obtain ⟨r31, hr31, h⟩ := bsm h
  refine callA (c_impl_isLetter n a10 _ hr31) ?_
  refine And.intro (fun c => ?_) (fun c => ?_)
  · replace h := cF h c
    refine And.intro (fun _ => ?_) (fun c => absurd c (by decide))
    obtain ⟨r32, hr32, h⟩ := bsm h
    refine callA (c_impl_isDigit n a10 _ hr32) ?_
    refine And.intro (fun c => absurd c (by decide)) (fun _ => ?_)
    refine And.intro (fun c => ?_) (fun c => ?_)
    · replace h := cF h c
      refine And.intro (fun _ => ?_) (fun c => absurd c (by decide))
      refine And.intro (fun c => absurd c (by decide)) (fun _ => ?_)
      replace h := Option.some.inj h
      subst h
      exact ⟨[.p (B (a10 == 95))], [], ⟨[], ⟨rfl, trivial⟩, trivial, rfl⟩, rfl, rfl, rfl⟩
    · replace h := cT h c
      refine And.intro (fun c => absurd c (by decide)) (fun _ => ?_)
      refine And.intro (fun _ => ?_) (fun c => absurd c (by decide))
      replace h := Option.some.inj h
      subst h
      exact ⟨[.p (B true)], [], ⟨[], ⟨rfl, trivial⟩, trivial, rfl⟩, rfl, rfl, rfl⟩
  · replace h := cT h c
    refine And.intro (fun c => absurd c (by decide)) (fun _ => ?_)
    refine And.intro (fun _ => ?_) (fun c => absurd c (by decide))
    refine And.intro (fun c => absurd c (by decide)) (fun _ => ?_)
    refine And.intro (fun c => absurd c (by decide)) (fun _ => ?_)
    refine And.intro (fun _ => ?_) (fun c => absurd c (by decide))
    replace h := Option.some.inj h
    subst h
    exact ⟨[.p (B true)], [], ⟨[], ⟨rfl, trivial⟩, trivial, rfl⟩, rfl, rfl, rfl⟩
def m_impl_treeReader_name_j7 (a11 : gtreeReader) (v19 : gtreeReader) : Option (Ou (ByteArray × gtreeReader)) :=
  gp (0 ≤ a11.i_ ∧ a11.i_ ≤ v19.i_ ∧ v19.i_ ≤ (v19.s_.size : Int)) <|
  some (.ok ((v19.s_.extract a11.i_.toNat v19.i_.toNat), v19))
def m_impl_treeReader_name_j11 (rec10 : gtreeReader → Option (Ou (ByteArray × gtreeReader))) (v24 : gtreeReader) : Option (Ou (ByteArray × gtreeReader)) :=
  rec10 (gtreeReader.mk v24.s_ (wr .i64 (v24.i_ + 1)))
def m_impl_treeReader_name_l10 (n : Nat) (a11 : gtreeReader) : Nat → gtreeReader → Option (Ou (ByteArray × gtreeReader))
  | 0, _ => none
  | k10 + 1, v21 =>
    (m_impl_treeReader_at n v21).bind fun r80 =>
    bif (decide (r80.1 ≥ 0)) then (
      (m_impl_treeReader_at n r80.2).bind fun r81 =>
      (m_impl_inName n (wr .u8 r81.1)).bind fun r82 =>
      bif r82 then (
        bif ((wr .i64 (r81.2.i_ - a11.i_)) == 24) then (
          (m_impl_treeReader_bad n r81.2).bind fun o => o.el (fun r84 =>
            m_impl_treeReader_name_j11 (m_impl_treeReader_name_l10 n a11 k10) r84)
            (fun er84 =>
              some (.pan er84)))
        else (
          m_impl_treeReader_name_j11 (m_impl_treeReader_name_l10 n a11 k10) r81.2))
      else (
        m_impl_treeReader_name_j7 a11 r81.2))
    else (
      m_impl_treeReader_name_j7 a11 r80.2)
def m_impl_treeReader_name_j2 (n : Nat) (a11 : gtreeReader) (v13 : gtreeReader) : Option (Ou (ByteArray × gtreeReader)) :=
  m_impl_treeReader_name_l10 n a11 n v13
def m_impl_treeReader_name_j12 (n : Nat) (a11 : gtreeReader) (r85 : Int × gtreeReader) (v25 : Bool) : Option (Ou (ByteArray × gtreeReader)) :=
  bif v25 then (
    (m_impl_treeReader_bad n r85.2).bind fun o => o.el (fun r87 =>
      m_impl_treeReader_name_j2 n a11 r87)
      (fun er87 =>
        some (.pan er87)))
  else (
    m_impl_treeReader_name_j2 n a11 r85.2)
def m_impl_treeReader_name (n : Nat) (a11 : gtreeReader) : Option (Ou (ByteArray × gtreeReader)) :=
  (m_impl_treeReader_at n a11).bind fun r85 =>
  bif (decide (r85.1 < 0)) then (
    m_impl_treeReader_name_j12 n a11 r85 true)
  else (
    (m_impl_isLetter n (wr .u8 r85.1)).bind fun r88 =>
    m_impl_treeReader_name_j12 n a11 r85 (!r88))
theorem c_impl_treeReader_name (n : Nat) (a11 : gtreeReader) (r : Ou (ByteArray × gtreeReader)) (h : m_impl_treeReader_name n a11 = some r) : FnE Try.prog 128 [.ptr 0 0] [.box 131 [.p (S a11.s_), .p (I a11.i_)]] (fun rs τ' => ∃ x, r = .ok x ∧ rs = [.p (S x.1)] ∧ τ' = [.box 131 [.p (S x.2.s_), .p (I x.2.i_)]]) (fun v τ' => ∃ e, r = .pan e ∧ v = (.iface 127 (.agg #[.int .i64 e])) ∧ τ' = [.box 131 [.dead, .dead]]) := by
  unfold m_impl_treeReader_name at h
  refine fn_introJE Try.func128 rfl rfl rfl ?_
  refine .inl ?_
  refine .inl ?_
  refine .inr ⟨gtreeReader, fun x => ([(0, .ptr 0 0), (3, .p (I a11.i_))], [.box 131 [.p (S x.s_), .p (I x.i_)]]), fun x => m_impl_treeReader_name_j2 n a11 x = some r, ?_, ?_⟩
  · refine .inl ?_
    obtain ⟨r85, hr85, h⟩ := bsm h
    refine callW (args' := [.ptr 0 0]) (τ0 := [.box 131 [.p (S a11.s_), .p (I a11.i_)]]) [0] [] (c_impl_treeReader_at n a11 _ hr85) (fun K hk => hk) rfl ⟨rfl, trivial⟩ ⟨⟨rfl, rfl, rfl, trivial⟩, trivial⟩ rfl ?_
    rintro rs τ' hl' ⟨rfl, rfl⟩
    refine .inr ⟨Bool, fun x => ([(0, .ptr 0 0), (3, .p (I a11.i_)), (18, .p (B x))], [.box 131 [.p (S r85.2.s_), .p (I r85.2.i_)]]), fun x => m_impl_treeReader_name_j12 n a11 r85 x = some r, ?_, ?_⟩
    · refine And.intro (fun c => ?_) (fun c => ?_)
      · replace h := cF h c
        refine And.intro (fun _ => ?_) (fun c => absurd c (by decide))
        refine And.intro (fun _ => ?_) (fun c => absurd c (by decide))
        obtain ⟨r88, hr88, h⟩ := bsm h
        refine callA (c_impl_isLetter n (wr .u8 r85.1) _ hr88) ?_
        refine And.intro (fun _ => ?_) (fun c => absurd c (by decide))
        refine And.intro (fun c => absurd c (by decide)) (fun _ => ?_)
        exact ⟨(!r88), h, [], ⟨rfl, rfl, rfl, trivial⟩, ⟨⟨rfl, rfl, rfl, trivial⟩, trivial⟩, rfl⟩
      · replace h := cT h c
        refine And.intro (fun c => absurd c (by decide)) (fun _ => ?_)
        refine And.intro (fun c => absurd c (by decide)) (fun _ => ?_)
        refine And.intro (fun c => absurd c (by decide)) (fun _ => ?_)
        refine And.intro (fun _ => ?_) (fun c => absurd c (by decide))
        exact ⟨true, h, [], ⟨rfl, rfl, rfl, trivial⟩, ⟨⟨rfl, rfl, rfl, trivial⟩, trivial⟩, rfl⟩
    · rintro v25 h
      unfold m_impl_treeReader_name_j12 at h
      refine And.intro (fun c => ?_) (fun c => ?_)
      · replace h := cT h c
        obtain ⟨o, ho, h⟩ := bsm h
        refine callPan [0] (c_impl_treeReader_bad n r85.2 _ ho) (fun K hk => hk) rfl ?_ ?_
        · rintro rs τ' hl' ⟨r87, rfl, rfl, rfl⟩
          replace h := ouk h
          exact ⟨r87, h, [], ⟨rfl, rfl, trivial⟩, ⟨⟨rfl, rfl, rfl, trivial⟩, trivial⟩, rfl⟩
        · rintro v τ' hl' ⟨er87, rfl, rfl, rfl⟩
          replace h := oup h
          replace h := Option.some.inj h
          subst h
          exact ⟨[.box 131 [.dead, .dead]], ⟨⟨⟨rfl, trivial, trivial, trivial⟩, trivial⟩, rfl⟩, _, rfl, rfl, rfl⟩
      · replace h := cF h c
        exact ⟨r85.2, h, [], ⟨rfl, rfl, trivial⟩, ⟨⟨rfl, rfl, rfl, trivial⟩, trivial⟩, rfl⟩
  · rintro v13 h
    unfold m_impl_treeReader_name_j2 at h
    refine .inr ⟨gtreeReader, fun x => ([(0, .ptr 0 0), (3, .p (I a11.i_))], [.box 131 [.p (S x.s_), .p (I x.i_)]]), fun x => m_impl_treeReader_name_j7 a11 x = some r, ?_, ?_⟩
    · refine ⟨gtreeReader, fun x => ([(0, .ptr 0 0), (3, .p (I a11.i_))], [.box 131 [.p (S x.s_), .p (I x.i_)]]), fun x k => m_impl_treeReader_name_l10 n a11 k x = some r, ⟨v13, n, h, [], ⟨rfl, rfl, trivial⟩, ⟨⟨rfl, rfl, rfl, trivial⟩, trivial⟩, rfl⟩, ?_⟩
      rintro v21 (_ | k10) h
      · exact ns h
      unfold m_impl_treeReader_name_l10 at h
      refine .inl ?_
      refine .inl ?_
      obtain ⟨r80, hr80, h⟩ := bsm h
      refine callW (args' := [.ptr 0 0]) (τ0 := [.box 131 [.p (S v21.s_), .p (I v21.i_)]]) [0] [] (c_impl_treeReader_at n v21 _ hr80) (fun K hk => hk) rfl ⟨rfl, trivial⟩ ⟨⟨rfl, rfl, rfl, trivial⟩, trivial⟩ rfl ?_
      rintro rs τ' hl' ⟨rfl, rfl⟩
      refine And.intro (fun c => ?_) (fun c => ?_)
      · replace h := cT h c
        refine And.intro (fun _ => ?_) (fun c => absurd c (by decide))
        obtain ⟨r81, hr81, h⟩ := bsm h
        refine callW (args' := [.ptr 0 0]) (τ0 := [.box 131 [.p (S r80.2.s_), .p (I r80.2.i_)]]) [0] [] (c_impl_treeReader_at n r80.2 _ hr81) (fun K hk => hk) rfl ⟨rfl, trivial⟩ ⟨⟨rfl, rfl, rfl, trivial⟩, trivial⟩ rfl ?_
        rintro rs τ' hl' ⟨rfl, rfl⟩
        refine And.intro (fun _ => ?_) (fun c => absurd c (by decide))
        refine And.intro (fun _ => ?_) (fun c => absurd c (by decide))
        obtain ⟨r82, hr82, h⟩ := bsm h
        refine callA (c_impl_inName n (wr .u8 r81.1) _ hr82) ?_
        refine And.intro (fun _ => ?_) (fun c => absurd c (by decide))
        refine And.intro (fun c => ?_) (fun c => ?_)
        · replace h := cT h c
          refine .inr ⟨gtreeReader, fun x => ([(0, .ptr 0 0), (3, .p (I a11.i_))], [.box 131 [.p (S x.s_), .p (I x.i_)]]), fun x => m_impl_treeReader_name_j11 (m_impl_treeReader_name_l10 n a11 k10) x = some r, ?_, ?_⟩
          · refine .inl ?_
            refine And.intro (fun c => ?_) (fun c => ?_)
            · replace h := cT h c
              obtain ⟨o, ho, h⟩ := bsm h
              refine callPan [0] (c_impl_treeReader_bad n r81.2 _ ho) (fun K hk => hk) rfl ?_ ?_
              · rintro rs τ' hl' ⟨r84, rfl, rfl, rfl⟩
                replace h := ouk h
                exact ⟨r84, h, [], ⟨rfl, rfl, trivial⟩, ⟨⟨rfl, rfl, rfl, trivial⟩, trivial⟩, rfl⟩
              · rintro v τ' hl' ⟨er84, rfl, rfl, rfl⟩
                replace h := oup h
                replace h := Option.some.inj h
                subst h
                exact ⟨[.box 131 [.dead, .dead]], ⟨⟨⟨rfl, trivial, trivial, trivial⟩, trivial⟩, rfl⟩, _, rfl, rfl, rfl⟩
            · replace h := cF h c
              exact ⟨r81.2, h, [], ⟨rfl, rfl, trivial⟩, ⟨⟨rfl, rfl, rfl, trivial⟩, trivial⟩, rfl⟩
          · rintro v24 h
            unfold m_impl_treeReader_name_j11 at h
            exact ⟨(gtreeReader.mk v24.s_ (wr .i64 (v24.i_ + 1))), k10, h, Nat.lt_succ_self _, [], ⟨rfl, rfl, trivial⟩, ⟨⟨rfl, rfl, rfl, trivial⟩, trivial⟩, rfl⟩
        · replace h := cF h c
          exact ⟨r81.2, h, [], ⟨rfl, rfl, trivial⟩, ⟨⟨rfl, rfl, rfl, trivial⟩, trivial⟩, rfl⟩
      · replace h := cF h c
        refine And.intro (fun c => absurd c (by decide)) (fun _ => ?_)
        refine And.intro (fun c => absurd c (by decide)) (fun _ => ?_)
        refine And.intro (fun c => absurd c (by decide)) (fun _ => ?_)
        refine And.intro (fun c => absurd c (by decide)) (fun _ => ?_)
        refine And.intro (fun c => absurd c (by decide)) (fun _ => ?_)
        exact ⟨r80.2, h, [], ⟨rfl, rfl, trivial⟩, ⟨⟨rfl, rfl, rfl, trivial⟩, trivial⟩, rfl⟩
    · rintro v19 h
      unfold m_impl_treeReader_name_j7 at h
      refine .inl ?_
      refine ⟨[0, 1, 2, 3, 4, 5, 6, 7, 8, 9, 10], [], by decide +kernel, ?_⟩
      obtain ⟨g2, h⟩ := gpT h
      refine And.intro g2 ?_
      replace h := Option.some.inj h
      subst h
      exact ⟨[.p (S (v19.s_.extract a11.i_.toNat v19.i_.toNat))], [.box 131 [.p (S v19.s_), .p (I v19.i_)]], ⟨[], ⟨rfl, trivial⟩, ⟨⟨rfl, rfl, rfl, trivial⟩, trivial⟩, rfl⟩, rfl, _, rfl, rfl, rfl⟩
def m_impl_treeReader_three_j83 (v154 : Int) (v155 : gtreeReader) : Option (Ou (Int × gtreeReader)) :=
  some (.ok ((wr .u8 v154), v155))
def m_impl_treeReader_three_j152 (v197 : Int) (v198 : Int) (rec138 : Int → Int → Int → gtreeReader → Option (Ou (Int × gtreeReader))) (v263 : Int) (v264 : gtreeReader) : Option (Ou (Int × gtreeReader)) :=
  rec138 v263 (wr .i64 (v197.tdiv 10)) (wr .i64 (v198 + 1)) v264
def m_impl_treeReader_three_j160 (v196 : Int) (v197 : Int) (v198 : Int) (rec138 : Int → Int → Int → gtreeReader → Option (Ou (Int × gtreeReader))) (r144 : Int × gtreeReader) (v275 : gtreeReader) : Option (Ou (Int × gtreeReader)) :=
  m_impl_treeReader_three_j152 v197 v198 rec138 (wr .i64 ((wr .i64 ((wr .i64 (v196 * 10)) + r144.1)) - 48)) (gtreeReader.mk v275.s_ (wr .i64 (v275.i_ + 1)))
def m_impl_treeReader_three_j159 (n : Nat) (v196 : Int) (v197 : Int) (v198 : Int) (rec138 : Int → Int → Int → gtreeReader → Option (Ou (Int × gtreeReader))) (r144 : Int × gtreeReader) (v266 : gtreeReader) (v274 : Bool) : Option (Ou (Int × gtreeReader)) :=
  bif (!v274) then (
    (m_impl_treeReader_bad n v266).bind fun o => o.el (fun r147 =>
      m_impl_treeReader_three_j160 v196 v197 v198 rec138 r144 r147)
      (fun er147 =>
        some (.pan er147)))
  else (
    m_impl_treeReader_three_j160 v196 v197 v198 rec138 r144 v266)
def m_impl_treeReader_three_j164 (v278 : Int) (rec163 : Bool → Int → Option (Ou (Int × gtreeReader))) (v282 : Bool) : Option (Ou (Int × gtreeReader)) :=
  rec163 v282 (wr .i64 (v278 + 1))
def m_impl_treeReader_three_l163 (n : Nat) (v196 : Int) (v197 : Int) (v198 : Int) (rec138 : Int → Int → Int → gtreeReader → Option (Ou (Int × gtreeReader))) (r144 : Int × gtreeReader) (v266 : gtreeReader) : Nat → Bool → Int → Option (Ou (Int × gtreeReader))
  | 0, _, _ => none
  | k163 + 1, v277, v278 =>
    bif (decide (v278 < (wr .i64 ((wr .i64 ((wr .i64 ((wr .i64 ((wr .i64 (v196 * 10)) + r144.1)) - 48)) + 1)) * v197)))) then (
      bif v277 then (
        m_impl_treeReader_three_j164 v278 (m_impl_treeReader_three_l163 n v196 v197 v198 rec138 r144 v266 k163) true)
      else (
        bif (decide (v278 < 32)) then (
          m_impl_treeReader_three_j164 v278 (m_impl_treeReader_three_l163 n v196 v197 v198 rec138 r144 v266 k163) true)
        else (
          bif (decide (v278 > 126)) then (
            m_impl_treeReader_three_j164 v278 (m_impl_treeReader_three_l163 n v196 v197 v198 rec138 r144 v266 k163) (decide (v278 < 256)))
          else (
            m_impl_treeReader_three_j164 v278 (m_impl_treeReader_three_l163 n v196 v197 v198 rec138 r144 v266 k163) false))))
    else (
      m_impl_treeReader_three_j159 n v196 v197 v198 rec138 r144 v266 v277)
def m_impl_treeReader_three_j154 (n : Nat) (v196 : Int) (v197 : Int) (v198 : Int) (rec138 : Int → Int → Int → gtreeReader → Option (Ou (Int × gtreeReader))) (r144 : Int × gtreeReader) (v266 : gtreeReader) : Option (Ou (Int × gtreeReader)) :=
  m_impl_treeReader_three_l163 n v196 v197 v198 rec138 r144 v266 n false (wr .i64 ((wr .i64 ((wr .i64 ((wr .i64 (v196 * 10)) + r144.1)) - 48)) * v197))
def m_impl_treeReader_three_j165 (n : Nat) (v196 : Int) (v197 : Int) (v198 : Int) (rec138 : Int → Int → Int → gtreeReader → Option (Ou (Int × gtreeReader))) (r144 : Int × gtreeReader) (v283 : Bool) : Option (Ou (Int × gtreeReader)) :=
  bif v283 then (
    (m_impl_treeReader_bad n r144.2).bind fun o => o.el (fun r148 =>
      m_impl_treeReader_three_j154 n v196 v197 v198 rec138 r144 r148)
      (fun er148 =>
        some (.pan er148)))
  else (
    m_impl_treeReader_three_j154 n v196 v197 v198 rec138 r144 r144.2)
def m_impl_treeReader_three_l138 (n : Nat) : Nat → Int → Int → Int → gtreeReader → Option (Ou (Int × gtreeReader))
  | 0, _, _, _, _ => none
  | k138 + 1, v196, v197, v198, v199 =>
    bif (decide (v198 < 3)) then (
      (m_impl_treeReader_at n v199).bind fun r144 =>
      bif (decide (r144.1 < 48)) then (
        m_impl_treeReader_three_j165 n v196 v197 v198 (m_impl_treeReader_three_l138 n k138) r144 true)
      else (
        m_impl_treeReader_three_j165 n v196 v197 v198 (m_impl_treeReader_three_l138 n k138) r144 (decide (r144.1 > 57))))
    else (
      m_impl_treeReader_three_j83 v196 v199)
def m_impl_treeReader_three (n : Nat) (a12 : gtreeReader) : Option (Ou (Int × gtreeReader)) :=
  m_impl_treeReader_three_l138 n n 0 100 0 a12
theorem c_impl_treeReader_three (n : Nat) (a12 : gtreeReader) (r : Ou (Int × gtreeReader)) (h : m_impl_treeReader_three n a12 = some r) : FnE Try.prog 140 [.ptr 0 0] [.box 131 [.p (S a12.s_), .p (I a12.i_)]] (fun rs τ' => ∃ x, r = .ok x ∧ rs = [.p (.raw (.int .u8 x.1))] ∧ τ' = [.box 131 [.p (S x.2.s_), .p (I x.2.i_)]]) (fun v τ' => ∃ e, r = .pan e ∧ v = (.iface 127 (.agg #[.int .i64 e])) ∧ τ' = [.box 131 [.dead, .dead]]) := by
  unfold m_impl_treeReader_three at h
  refine fn_introJE Try.func140 rfl rfl rfl ?_
  refine .inl ?_
  refine .inl ?_
  refine .inr ⟨Int × gtreeReader, fun x => ([(3, .p (I x.1))], [.box 131 [.p (S x.2.s_), .p (I x.2.i_)]]), fun x => m_impl_treeReader_three_j83 x.1 x.2 = some r, ?_, ?_⟩
  · refine .inl ?_
    refine ⟨Int × Int × Int × gtreeReader, fun x => ([(0, .ptr 0 0), (3, .p (I x.1)), (4, .p (I x.2.1)), (5, .p (I x.2.2.1))], [.box 131 [.p (S x.2.2.2.s_), .p (I x.2.2.2.i_)]]), fun x k => m_impl_treeReader_three_l138 n k x.1 x.2.1 x.2.2.1 x.2.2.2 = some r, ⟨(0, 100, 0, a12), n, h, [], ⟨rfl, rfl, rfl, rfl, trivial⟩, ⟨⟨rfl, rfl, rfl, trivial⟩, trivial⟩, rfl⟩, ?_⟩
    rintro ⟨v196, v197, v198, v199⟩ (_ | k138) h
    · exact ns h
    unfold m_impl_treeReader_three_l138 at h
    refine .inl ?_
    refine .inl ?_
    refine And.intro (fun c => ?_) (fun c => ?_)
    · replace h := cT h c
      refine .inr ⟨Int × gtreeReader, fun x => ([(0, .ptr 0 0), (3, .p (I x.1)), (4, .p (I (wr .i64 (v197.tdiv 10)))), (5, .p (I v198))], [.box 131 [.p (S x.2.s_), .p (I x.2.i_)]]), fun x => m_impl_treeReader_three_j152 v197 v198 (m_impl_treeReader_three_l138 n k138) x.1 x.2 = some r, ?_, ?_⟩
      · refine .inl ?_
        obtain ⟨r144, hr144, h⟩ := bsm h
        refine callW (args' := [.ptr 0 0]) (τ0 := [.box 131 [.p (S v199.s_), .p (I v199.i_)]]) [0] [] (c_impl_treeReader_at n v199 _ hr144) (fun K hk => hk) rfl ⟨rfl, trivial⟩ ⟨⟨rfl, rfl, rfl, trivial⟩, trivial⟩ rfl ?_
        rintro rs τ' hl' ⟨rfl, rfl⟩
        refine .inr ⟨gtreeReader, fun x => ([(0, .ptr 0 0), (3, .p (I v196)), (4, .p (I v197)), (5, .p (I v198)), (6, .p (I r144.1))], [.box 131 [.p (S x.s_), .p (I x.i_)]]), fun x => m_impl_treeReader_three_j154 n v196 v197 v198 (m_impl_treeReader_three_l138 n k138) r144 x = some r, ?_, ?_⟩
        · refine .inr ⟨Bool, fun x => ([(0, .ptr 0 0), (3, .p (I v196)), (4, .p (I v197)), (5, .p (I v198)), (6, .p (I r144.1)), (21, .p (B x))], [.box 131 [.p (S r144.2.s_), .p (I r144.2.i_)]]), fun x => m_impl_treeReader_three_j165 n v196 v197 v198 (m_impl_treeReader_three_l138 n k138) r144 x = some r, ?_, ?_⟩
          · refine And.intro (fun c => ?_) (fun c => ?_)
            · replace h := cF h c
              refine And.intro (fun _ => ?_) (fun c => absurd c (by decide))
              refine And.intro (fun c => absurd c (by decide)) (fun _ => ?_)
              exact ⟨(decide (r144.1 > 57)), h, [], ⟨rfl, rfl, rfl, rfl, rfl, rfl, trivial⟩, ⟨⟨rfl, rfl, rfl, trivial⟩, trivial⟩, rfl⟩
            · replace h := cT h c
              refine And.intro (fun c => absurd c (by decide)) (fun _ => ?_)
              refine And.intro (fun _ => ?_) (fun c => absurd c (by decide))
              exact ⟨true, h, [], ⟨rfl, rfl, rfl, rfl, rfl, rfl, trivial⟩, ⟨⟨rfl, rfl, rfl, trivial⟩, trivial⟩, rfl⟩
          · rintro v283 h
            unfold m_impl_treeReader_three_j165 at h
            refine And.intro (fun c => ?_) (fun c => ?_)
            · replace h := cT h c
              obtain ⟨o, ho, h⟩ := bsm h
              refine callPan [0] (c_impl_treeReader_bad n r144.2 _ ho) (fun K hk => hk) rfl ?_ ?_
              · rintro rs τ' hl' ⟨r148, rfl, rfl, rfl⟩
                replace h := ouk h
                exact ⟨r148, h, [], ⟨rfl, rfl, rfl, rfl, rfl, trivial⟩, ⟨⟨rfl, rfl, rfl, trivial⟩, trivial⟩, rfl⟩
              · rintro v τ' hl' ⟨er148, rfl, rfl, rfl⟩
                replace h := oup h
                replace h := Option.some.inj h
                subst h
                exact ⟨[.box 131 [.dead, .dead]], ⟨⟨⟨rfl, trivial, trivial, trivial⟩, trivial⟩, rfl⟩, _, rfl, rfl, rfl⟩
            · replace h := cF h c
              exact ⟨r144.2, h, [], ⟨rfl, rfl, rfl, rfl, rfl, trivial⟩, ⟨⟨rfl, rfl, rfl, trivial⟩, trivial⟩, rfl⟩
        · rintro v266 h
          unfold m_impl_treeReader_three_j154 at h
          refine .inl ?_
          refine .inl ?_
          refine .inr ⟨Bool, fun x => ([(0, .ptr 0 0), (4, .p (I v197)), (5, .p (I v198)), (7, .p (I (wr .i64 ((wr .i64 ((wr .i64 (v196 * 10)) + r144.1)) - 48)))), (8, .p (B x))], [.box 131 [.p (S v266.s_), .p (I v266.i_)]]), fun x => m_impl_treeReader_three_j159 n v196 v197 v198 (m_impl_treeReader_three_l138 n k138) r144 v266 x = some r, ?_, ?_⟩
          · refine .inl ?_
            refine ⟨Bool × Int, fun x => ([(0, .ptr 0 0), (4, .p (I v197)), (5, .p (I v198)), (7, .p (I (wr .i64 ((wr .i64 ((wr .i64 (v196 * 10)) + r144.1)) - 48)))), (8, .p (B x.1)), (9, .p (I x.2))], [.box 131 [.p (S v266.s_), .p (I v266.i_)]]), fun x k => m_impl_treeReader_three_l163 n v196 v197 v198 (m_impl_treeReader_three_l138 n k138) r144 v266 k x.1 x.2 = some r, ⟨(false, (wr .i64 ((wr .i64 ((wr .i64 ((wr .i64 (v196 * 10)) + r144.1)) - 48)) * v197))), n, h, [], ⟨rfl, rfl, rfl, rfl, rfl, rfl, trivial⟩, ⟨⟨rfl, rfl, rfl, trivial⟩, trivial⟩, rfl⟩, ?_⟩
            rintro ⟨v277, v278⟩ (_ | k163) h
            · exact ns h
            unfold m_impl_treeReader_three_l163 at h
            refine .inl ?_
            refine .inl ?_
            refine And.intro (fun c => ?_) (fun c => ?_)
            · replace h := cT h c
              refine .inr ⟨Bool, fun x => ([(0, .ptr 0 0), (4, .p (I v197)), (5, .p (I v198)), (7, .p (I (wr .i64 ((wr .i64 ((wr .i64 (v196 * 10)) + r144.1)) - 48)))), (8, .p (B x)), (9, .p (I v278))], [.box 131 [.p (S v266.s_), .p (I v266.i_)]]), fun x => m_impl_treeReader_three_j164 v278 (m_impl_treeReader_three_l163 n v196 v197 v198 (m_impl_treeReader_three_l138 n k138) r144 v266 k163) x = some r, ?_, ?_⟩
              · refine And.intro (fun c => ?_) (fun c => ?_)
                · replace h := cF h c
                  refine And.intro (fun _ => ?_) (fun c => absurd c (by decide))
                  refine And.intro (fun c => absurd c (by decide)) (fun _ => ?_)
                  refine And.intro (fun c => ?_) (fun c => ?_)
                  · replace h := cF h c
                    refine And.intro (fun _ => ?_) (fun c => absurd c (by decide))
                    refine And.intro (fun _ => ?_) (fun c => absurd c (by decide))
                    refine And.intro (fun c => ?_) (fun c => ?_)
                    · replace h := cT h c
                      refine And.intro (fun _ => ?_) (fun c => absurd c (by decide))
                      refine And.intro (fun _ => ?_) (fun c => absurd c (by decide))
                      refine And.intro (fun _ => ?_) (fun c => absurd c (by decide))
                      refine And.intro (fun c => absurd c (by decide)) (fun _ => ?_)
                      exact ⟨(decide (v278 < 256)), h, [], ⟨rfl, rfl, rfl, rfl, rfl, rfl, trivial⟩, ⟨⟨rfl, rfl, rfl, trivial⟩, trivial⟩, rfl⟩
                    · replace h := cF h c
                      refine And.intro (fun c => absurd c (by decide)) (fun _ => ?_)
                      refine And.intro (fun _ => ?_) (fun c => absurd c (by decide))
                      refine And.intro (fun c => absurd c (by decide)) (fun _ => ?_)
                      refine And.intro (fun c => absurd c (by decide)) (fun _ => ?_)
                      exact ⟨false, h, [], ⟨rfl, rfl, rfl, rfl, rfl, rfl, trivial⟩, ⟨⟨rfl, rfl, rfl, trivial⟩, trivial⟩, rfl⟩
                  · replace h := cT h c
                    refine And.intro (fun c => absurd c (by decide)) (fun _ => ?_)
                    refine And.intro (fun c => absurd c (by decide)) (fun _ => ?_)
                    refine And.intro (fun c => absurd c (by decide)) (fun _ => ?_)
                    refine And.intro (fun _ => ?_) (fun c => absurd c (by decide))
                    exact ⟨true, h, [], ⟨rfl, rfl, rfl, rfl, rfl, rfl, trivial⟩, ⟨⟨rfl, rfl, rfl, trivial⟩, trivial⟩, rfl⟩
                · replace h := cT h c
                  refine And.intro (fun c => absurd c (by decide)) (fun _ => ?_)
                  refine And.intro (fun _ => ?_) (fun c => absurd c (by decide))
                  refine And.intro (fun c => absurd c (by decide)) (fun _ => ?_)
                  refine And.intro (fun c => absurd c (by decide)) (fun _ => ?_)
                  refine And.intro (fun c => absurd c (by decide)) (fun _ => ?_)
                  refine And.intro (fun c => absurd c (by decide)) (fun _ => ?_)
                  refine And.intro (fun _ => ?_) (fun c => absurd c (by decide))
                  exact ⟨true, h, [], ⟨rfl, rfl, rfl, rfl, rfl, rfl, trivial⟩, ⟨⟨rfl, rfl, rfl, trivial⟩, trivial⟩, rfl⟩
              · rintro v282 h
                unfold m_impl_treeReader_three_j164 at h
                exact ⟨(v282, (wr .i64 (v278 + 1))), k163, h, Nat.lt_succ_self _, [], ⟨rfl, rfl, rfl, rfl, rfl, rfl, trivial⟩, ⟨⟨rfl, rfl, rfl, trivial⟩, trivial⟩, rfl⟩
            · replace h := cF h c
              exact ⟨v277, h, [], ⟨rfl, rfl, rfl, rfl, rfl, trivial⟩, ⟨⟨rfl, rfl, rfl, trivial⟩, trivial⟩, rfl⟩
          · rintro v274 h
            unfold m_impl_treeReader_three_j159 at h
            refine .inr ⟨gtreeReader, fun x => ([(0, .ptr 0 0), (4, .p (I v197)), (5, .p (I v198)), (7, .p (I (wr .i64 ((wr .i64 ((wr .i64 (v196 * 10)) + r144.1)) - 48))))], [.box 131 [.p (S x.s_), .p (I x.i_)]]), fun x => m_impl_treeReader_three_j160 v196 v197 v198 (m_impl_treeReader_three_l138 n k138) r144 x = some r, ?_, ?_⟩
            · refine .inl ?_
              refine And.intro (fun c => ?_) (fun c => ?_)
              · replace h := cT h c
                obtain ⟨o, ho, h⟩ := bsm h
                refine callPan [0] (c_impl_treeReader_bad n v266 _ ho) (fun K hk => hk) rfl ?_ ?_
                · rintro rs τ' hl' ⟨r147, rfl, rfl, rfl⟩
                  replace h := ouk h
                  exact ⟨r147, h, [], ⟨rfl, rfl, rfl, rfl, trivial⟩, ⟨⟨rfl, rfl, rfl, trivial⟩, trivial⟩, rfl⟩
                · rintro v τ' hl' ⟨er147, rfl, rfl, rfl⟩
                  replace h := oup h
                  replace h := Option.some.inj h
                  subst h
                  exact ⟨[.box 131 [.dead, .dead]], ⟨⟨⟨rfl, trivial, trivial, trivial⟩, trivial⟩, rfl⟩, _, rfl, rfl, rfl⟩
              · replace h := cF h c
                exact ⟨v266, h, [], ⟨rfl, rfl, rfl, rfl, trivial⟩, ⟨⟨rfl, rfl, rfl, trivial⟩, trivial⟩, rfl⟩
            · rintro v275 h
              unfold m_impl_treeReader_three_j160 at h
              refine .inl ?_
              refine .inl ?_
              refine And.intro (by decide) ?_
              exact ⟨((wr .i64 ((wr .i64 ((wr .i64 (v196 * 10)) + r144.1)) - 48)), (gtreeReader.mk v275.s_ (wr .i64 (v275.i_ + 1)))), h, [], ⟨rfl, rfl, rfl, rfl, trivial⟩, ⟨⟨rfl, rfl, rfl, trivial⟩, trivial⟩, rfl⟩
      · rintro ⟨v263, v264⟩ h
        unfold m_impl_treeReader_three_j152 at h
        exact ⟨(v263, (wr .i64 (v197.tdiv 10)), (wr .i64 (v198 + 1)), v264), k138, h, Nat.lt_succ_self _, [], ⟨rfl, rfl, rfl, rfl, trivial⟩, ⟨⟨rfl, rfl, rfl, trivial⟩, trivial⟩, rfl⟩
    · replace h := cF h c
      exact ⟨(v196, v199), h, [], ⟨rfl, trivial⟩, ⟨⟨rfl, rfl, rfl, trivial⟩, trivial⟩, rfl⟩
  · rintro ⟨v154, v155⟩ h
    unfold m_impl_treeReader_three_j83 at h
    refine .inl ?_
    replace h := Option.some.inj h
    subst h
    exact ⟨[.p (.raw (.int .u8 (wr .u8 v154)))], [.box 131 [.p (S v155.s_), .p (I v155.i_)]], ⟨[], ⟨rfl, trivial⟩, ⟨⟨rfl, rfl, rfl, trivial⟩, trivial⟩, rfl⟩, rfl, _, rfl, rfl, rfl⟩
def m_impl_treeReader_leaf_j18 (v304 : gtreeReader) (v305 : List UInt8) : Option (Ou (ByteArray × gtreeReader)) :=
  some (.ok ((ofL v305), (gtreeReader.mk v304.s_ (wr .i64 (v304.i_ + 1)))))
def m_impl_treeReader_leaf_j33 (n : Nat) (v312 : List UInt8) (rec29 : gtreeReader → List UInt8 → Option (Ou (ByteArray × gtreeReader))) (r190 : Int × gtreeReader) (v323 : Bool) : Option (Ou (ByteArray × gtreeReader)) :=
  bif v323 then (
    (toU8 (wr .u8 r190.1)).bind fun u23 =>
    gp (v312.length + ([u23] : List UInt8).length ≤ 68719476736) <|
    rec29 (gtreeReader.mk r190.2.s_ (wr .i64 (r190.2.i_ + 1))) (v312 ++ [u23]))
  else (
    (m_impl_treeReader_three n r190.2).bind fun o => o.el (fun r191 =>
      (toU8 r191.1).bind fun u24 =>
      gp (v312.length + ([u24] : List UInt8).length ≤ 68719476736) <|
      rec29 r191.2 (v312 ++ [u24]))
      (fun er191 =>
        some (.pan er191)))
def m_impl_treeReader_leaf_j31 (n : Nat) (v312 : List UInt8) (rec29 : gtreeReader → List UInt8 → Option (Ou (ByteArray × gtreeReader))) (r187 : Int × gtreeReader) (v321 : gtreeReader) : Option (Ou (ByteArray × gtreeReader)) :=
  bif (r187.1 != 92) then (
    (toU8 (wr .u8 r187.1)).bind fun u21 =>
    gp (v312.length + ([u21] : List UInt8).length ≤ 68719476736) <|
    rec29 (gtreeReader.mk v321.s_ (wr .i64 (v321.i_ + 1))) (v312 ++ [u21]))
  else (
    (m_impl_treeReader_at n (gtreeReader.mk v321.s_ (wr .i64 (v321.i_ + 1)))).bind fun r190 =>
    bif (r190.1 == 34) then (
      m_impl_treeReader_leaf_j33 n v312 rec29 r190 true)
    else (
      m_impl_treeReader_leaf_j33 n v312 rec29 r190 (r190.1 == 92)))
def m_impl_treeReader_leaf_j34 (n : Nat) (v312 : List UInt8) (rec29 : gtreeReader → List UInt8 → Option (Ou (ByteArray × gtreeReader))) (r187 : Int × gtreeReader) (v324 : Bool) : Option (Ou (ByteArray × gtreeReader)) :=
  bif v324 then (
    (m_impl_treeReader_bad n r187.2).bind fun o => o.el (fun r192 =>
      m_impl_treeReader_leaf_j31 n v312 rec29 r187 r192)
      (fun er192 =>
        some (.pan er192)))
  else (
    m_impl_treeReader_leaf_j31 n v312 rec29 r187 r187.2)
def m_impl_treeReader_leaf_l29 (n : Nat) : Nat → gtreeReader → List UInt8 → Option (Ou (ByteArray × gtreeReader))
  | 0, _, _ => none
  | k29 + 1, v311, v312 =>
    (m_impl_treeReader_at n v311).bind fun r186 =>
    bif (r186.1 != 34) then (
      (m_impl_treeReader_at n r186.2).bind fun r187 =>
      bif (decide (r187.1 < 32)) then (
        m_impl_treeReader_leaf_j34 n v312 (m_impl_treeReader_leaf_l29 n k29) r187 true)
      else (
        m_impl_treeReader_leaf_j34 n v312 (m_impl_treeReader_leaf_l29 n k29) r187 (decide (r187.1 > 126))))
    else (
      m_impl_treeReader_leaf_j18 r186.2 v312)
def m_impl_treeReader_leaf_j1 (n : Nat) (v284 : gtreeReader) : Option (Ou (ByteArray × gtreeReader)) :=
  m_impl_treeReader_leaf_l29 n n (gtreeReader.mk v284.s_ (wr .i64 (v284.i_ + 1))) []
def m_impl_treeReader_leaf (n : Nat) (a13 : gtreeReader) : Option (Ou (ByteArray × gtreeReader)) :=
  (m_impl_treeReader_at n a13).bind fun r193 =>
  bif (r193.1 != 34) then (
    (m_impl_treeReader_bad n r193.2).bind fun o => o.el (fun r194 =>
      m_impl_treeReader_leaf_j1 n r194)
      (fun er194 =>
        some (.pan er194)))
  else (
    m_impl_treeReader_leaf_j1 n r193.2)
theorem c_impl_treeReader_leaf (n : Nat) (a13 : gtreeReader) (r : Ou (ByteArray × gtreeReader)) (h : m_impl_treeReader_leaf n a13 = some r) : FnE Try.prog 129 [.ptr 0 0] [.box 131 [.p (S a13.s_), .p (I a13.i_)]] (fun rs τ' => ∃ x, r = .ok x ∧ rs = [.p (S x.1)] ∧ τ' = [.box 131 [.p (S x.2.s_), .p (I x.2.i_)]]) (fun v τ' => ∃ e, r = .pan e ∧ v = (.iface 127 (.agg #[.int .i64 e])) ∧ τ' = [.box 131 [.dead, .dead]]) := by
  unfold m_impl_treeReader_leaf at h
  refine fn_introJE Try.func129 rfl rfl rfl ?_
  refine .inl ?_
  refine .inr ⟨gtreeReader, fun x => ([(0, .ptr 0 0)], [.box 131 [.p (S x.s_), .p (I x.i_)]]), fun x => m_impl_treeReader_leaf_j1 n x = some r, ?_, ?_⟩
  · refine .inl ?_
    obtain ⟨r193, hr193, h⟩ := bsm h
    refine callW (args' := [.ptr 0 0]) (τ0 := [.box 131 [.p (S a13.s_), .p (I a13.i_)]]) [0] [] (c_impl_treeReader_at n a13 _ hr193) (fun K hk => hk) rfl ⟨rfl, trivial⟩ ⟨⟨rfl, rfl, rfl, trivial⟩, trivial⟩ rfl ?_
    rintro rs τ' hl' ⟨rfl, rfl⟩
    refine And.intro (fun c => ?_) (fun c => ?_)
    · replace h := cT h c
      obtain ⟨o, ho, h⟩ := bsm h
      refine callPan [0] (c_impl_treeReader_bad n r193.2 _ ho) (fun K hk => hk) rfl ?_ ?_
      · rintro rs τ' hl' ⟨r194, rfl, rfl, rfl⟩
        replace h := ouk h
        exact ⟨r194, h, [], ⟨rfl, trivial⟩, ⟨⟨rfl, rfl, rfl, trivial⟩, trivial⟩, rfl⟩
      · rintro v τ' hl' ⟨er194, rfl, rfl, rfl⟩
        replace h := oup h
        replace h := Option.some.inj h
        subst h
        exact ⟨[.box 131 [.dead, .dead]], ⟨⟨⟨rfl, trivial, trivial, trivial⟩, trivial⟩, rfl⟩, _, rfl, rfl, rfl⟩
    · replace h := cF h c
      exact ⟨r193.2, h, [], ⟨rfl, trivial⟩, ⟨⟨rfl, rfl, rfl, trivial⟩, trivial⟩, rfl⟩
  · rintro v284 h
    unfold m_impl_treeReader_leaf_j1 at h
    refine .inl ?_
    refine .inl ?_
    refine .inr ⟨gtreeReader × List UInt8, fun x => ([(0, .ptr 0 0), (3, .row 1 1 0 x.2.length)], [.box 131 [.p (S x.1.s_), .p (I x.1.i_)], .row 5 1 (bl x.2)]), fun x => m_impl_treeReader_leaf_j18 x.1 x.2 = some r, ?_, ?_⟩
    · refine ⟨gtreeReader × List UInt8, fun x => ([(0, .ptr 0 0), (3, .row 1 1 0 x.2.length)], [.box 131 [.p (S x.1.s_), .p (I x.1.i_)], .row 5 1 (bl x.2)]), fun x k => m_impl_treeReader_leaf_l29 n k x.1 x.2 = some r, ⟨((gtreeReader.mk v284.s_ (wr .i64 (v284.i_ + 1))), []), n, h, [(5, 1)], ⟨rfl, ⟨rfl, rfl⟩, trivial⟩, ⟨⟨rfl, rfl, rfl, trivial⟩, rfl, trivial⟩, rfl⟩, ?_⟩
      rintro ⟨v311, v312⟩ (_ | k29) h
      · exact ns h
      unfold m_impl_treeReader_leaf_l29 at h
      refine .inl ?_
      refine .inl ?_
      obtain ⟨r186, hr186, h⟩ := bsm h
      refine callW (args' := [.ptr 0 0]) (τ0 := [.box 131 [.p (S v311.s_), .p (I v311.i_)]]) [0] [] (c_impl_treeReader_at n v311 _ hr186) (fun K hk => hk) rfl ⟨rfl, trivial⟩ ⟨⟨rfl, rfl, rfl, trivial⟩, trivial⟩ rfl ?_
      rintro rs τ' hl' ⟨rfl, rfl⟩
      refine And.intro (fun c => ?_) (fun c => ?_)
      · replace h := cT h c
        refine .inl ?_
        obtain ⟨r187, hr187, h⟩ := bsm h
        refine callW (args' := [.ptr 0 0]) (τ0 := [.box 131 [.p (S r186.2.s_), .p (I r186.2.i_)]]) [0] [] (c_impl_treeReader_at n r186.2 _ hr187) (fun K hk => hk) rfl ⟨rfl, trivial⟩ ⟨⟨rfl, rfl, rfl, trivial⟩, trivial⟩ rfl ?_
        rintro rs τ' hl' ⟨rfl, rfl⟩
        refine .inr ⟨gtreeReader, fun x => ([(0, .ptr 0 0), (3, .row 1 1 0 v312.length), (4, .p (I r187.1))], [.box 131 [.p (S x.s_), .p (I x.i_)], .row 5 1 (bl v312)]), fun x => m_impl_treeReader_leaf_j31 n v312 (m_impl_treeReader_leaf_l29 n k29) r187 x = some r, ?_, ?_⟩
        · refine .inr ⟨Bool, fun x => ([(0, .ptr 0 0), (3, .row 1 1 0 v312.length), (4, .p (I r187.1)), (27, .p (B x))], [.box 131 [.p (S r187.2.s_), .p (I r187.2.i_)], .row 5 1 (bl v312)]), fun x => m_impl_treeReader_leaf_j34 n v312 (m_impl_treeReader_leaf_l29 n k29) r187 x = some r, ?_, ?_⟩
          · refine And.intro (fun c => ?_) (fun c => ?_)
            · replace h := cF h c
              refine And.intro (fun _ => ?_) (fun c => absurd c (by decide))
              refine And.intro (fun c => absurd c (by decide)) (fun _ => ?_)
              exact ⟨(decide (r187.1 > 126)), h, [], ⟨rfl, rfl, rfl, rfl, trivial⟩, ⟨⟨rfl, rfl, rfl, trivial⟩, rfl, trivial⟩, rfl⟩
            · replace h := cT h c
              refine And.intro (fun c => absurd c (by decide)) (fun _ => ?_)
              refine And.intro (fun _ => ?_) (fun c => absurd c (by decide))
              exact ⟨true, h, [], ⟨rfl, rfl, rfl, rfl, trivial⟩, ⟨⟨rfl, rfl, rfl, trivial⟩, rfl, trivial⟩, rfl⟩
          · rintro v324 h
            unfold m_impl_treeReader_leaf_j34 at h
            refine And.intro (fun c => ?_) (fun c => ?_)
            · replace h := cT h c
              obtain ⟨o, ho, h⟩ := bsm h
              refine callPan [0] (c_impl_treeReader_bad n r187.2 _ ho) (fun K hk => hk) rfl ?_ ?_
              · rintro rs τ' hl' ⟨r192, rfl, rfl, rfl⟩
                replace h := ouk h
                exact ⟨r192, h, [], ⟨rfl, rfl, rfl, trivial⟩, ⟨⟨rfl, rfl, rfl, trivial⟩, rfl, trivial⟩, rfl⟩
              · rintro v τ' hl' ⟨er192, rfl, rfl, rfl⟩
                replace h := oup h
                replace h := Option.some.inj h
                subst h
                exact ⟨[.box 131 [.dead, .dead]], ⟨⟨⟨rfl, trivial, trivial, trivial⟩, trivial⟩, rfl⟩, _, rfl, rfl, rfl⟩
            · replace h := cF h c
              exact ⟨r187.2, h, [], ⟨rfl, rfl, rfl, trivial⟩, ⟨⟨rfl, rfl, rfl, trivial⟩, rfl, trivial⟩, rfl⟩
        · rintro v321 h
          unfold m_impl_treeReader_leaf_j31 at h
          refine .inl ?_
          refine .inl ?_
          refine .inl ?_
          refine And.intro (fun c => ?_) (fun c => ?_)
          · replace h := cT h c
            refine .inl ?_
            obtain ⟨u21, hu21, h⟩ := bsm h
            have eu21 := toU8_ok hu21
            refine And.intro (show fits _ _ from ⟨⟨rfl, rfl⟩, trivial⟩) ?_
            obtain ⟨g21, h⟩ := gpT h
            refine Exists.intro ([.raw (.int .u8 (wr .u8 r187.1))]) (And.intro (rowN rfl rfl) ?_)
            refine Exists.intro (bl v312) (And.intro (rowX (rowN rfl (show v312.length = (bl v312).length by simp [eu21])) (show fits _ _ from ⟨⟨rfl, rfl⟩, trivial⟩) (appfitJ (by first | simpa using g21 | (simp at g21 ⊢; omega)) rfl)) ?_)
            exact ⟨((gtreeReader.mk v321.s_ (wr .i64 (v321.i_ + 1))), (v312 ++ [u21])), k29, h, Nat.lt_succ_self _, [], ⟨rfl, (congrArg (AV.row 1 1 0) (show (v312 ++ [u21]).length = (v312.length + ([.raw (.int .u8 (wr .u8 r187.1))] : List PV).length) by simp [eu21])), trivial⟩, ⟨⟨rfl, rfl, rfl, trivial⟩, (congrArg (Bk.row 5 1) (show bl (v312 ++ [u21]) = (bl v312) ++ [.raw (.int .u8 (wr .u8 r187.1))] by simp [eu21])), trivial⟩, rfl⟩
          · replace h := cF h c
            refine .inl ?_
            refine .inl ?_
            obtain ⟨r190, hr190, h⟩ := bsm h
            refine callW (args' := [.ptr 0 0]) (τ0 := [.box 131 [.p (S (gtreeReader.mk v321.s_ (wr .i64 (v321.i_ + 1))).s_), .p (I (gtreeReader.mk v321.s_ (wr .i64 (v321.i_ + 1))).i_)]]) [0] [] (c_impl_treeReader_at n (gtreeReader.mk v321.s_ (wr .i64 (v321.i_ + 1))) _ hr190) (fun K hk => hk) rfl ⟨rfl, trivial⟩ ⟨⟨rfl, rfl, rfl, trivial⟩, trivial⟩ rfl ?_
            rintro rs τ' hl' ⟨rfl, rfl⟩
            refine .inr ⟨Bool, fun x => ([(0, .ptr 0 0), (3, .row 1 1 0 v312.length), (4, .p (I r190.1)), (51, .p (B x))], [.box 131 [.p (S r190.2.s_), .p (I r190.2.i_)], .row 5 1 (bl v312)]), fun x => m_impl_treeReader_leaf_j33 n v312 (m_impl_treeReader_leaf_l29 n k29) r190 x = some r, ?_, ?_⟩
            · refine And.intro (fun c => ?_) (fun c => ?_)
              · replace h := cF h c
                refine And.intro (fun _ => ?_) (fun c => absurd c (by decide))
                refine And.intro (fun c => absurd c (by decide)) (fun _ => ?_)
                exact ⟨(r190.1 == 92), h, [], ⟨rfl, rfl, rfl, rfl, trivial⟩, ⟨⟨rfl, rfl, rfl, trivial⟩, rfl, trivial⟩, rfl⟩
              · replace h := cT h c
                refine And.intro (fun c => absurd c (by decide)) (fun _ => ?_)
                refine And.intro (fun _ => ?_) (fun c => absurd c (by decide))
                exact ⟨true, h, [], ⟨rfl, rfl, rfl, rfl, trivial⟩, ⟨⟨rfl, rfl, rfl, trivial⟩, rfl, trivial⟩, rfl⟩
            · rintro v323 h
              unfold m_impl_treeReader_leaf_j33 at h
              refine And.intro (fun c => ?_) (fun c => ?_)
              · replace h := cT h c
                refine .inl ?_
                obtain ⟨u23, hu23, h⟩ := bsm h
                have eu23 := toU8_ok hu23
                refine And.intro (show fits _ _ from ⟨⟨rfl, rfl⟩, trivial⟩) ?_
                obtain ⟨g23, h⟩ := gpT h
                refine Exists.intro ([.raw (.int .u8 (wr .u8 r190.1))]) (And.intro (rowN rfl rfl) ?_)
                refine Exists.intro (bl v312) (And.intro (rowX (rowN rfl (show v312.length = (bl v312).length by simp [eu23])) (show fits _ _ from ⟨⟨rfl, rfl⟩, trivial⟩) (appfitJ (by first | simpa using g23 | (simp at g23 ⊢; omega)) rfl)) ?_)
                refine .inl ?_
                exact ⟨((gtreeReader.mk r190.2.s_ (wr .i64 (r190.2.i_ + 1))), (v312 ++ [u23])), k29, h, Nat.lt_succ_self _, [], ⟨rfl, (congrArg (AV.row 1 1 0) (show (v312 ++ [u23]).length = (v312.length + ([.raw (.int .u8 (wr .u8 r190.1))] : List PV).length) by simp [eu23])), trivial⟩, ⟨⟨rfl, rfl, rfl, trivial⟩, (congrArg (Bk.row 5 1) (show bl (v312 ++ [u23]) = (bl v312) ++ [.raw (.int .u8 (wr .u8 r190.1))] by simp [eu23])), trivial⟩, rfl⟩
              · replace h := cF h c
                obtain ⟨o, ho, h⟩ := bsm h
                refine callPan [0] (c_impl_treeReader_three n r190.2 _ ho) (fun K hk => hk) rfl ?_ ?_
                · rintro rs τ' hl' ⟨r191, rfl, rfl, rfl⟩
                  replace h := ouk h
                  obtain ⟨u24, hu24, h⟩ := bsm h
                  have eu24 := toU8_ok hu24
                  refine And.intro (show fits _ _ from ⟨⟨rfl, rfl⟩, trivial⟩) ?_
                  obtain ⟨g24, h⟩ := gpT h
                  refine Exists.intro ([.raw (.int .u8 r191.1)]) (And.intro (rowN rfl rfl) ?_)
                  refine Exists.intro (bl v312) (And.intro (rowX (rowN rfl (show v312.length = (bl v312).length by simp [eu24])) (show fits _ _ from ⟨⟨rfl, rfl⟩, trivial⟩) (appfitJ (by first | simpa using g24 | (simp at g24 ⊢; omega)) rfl)) ?_)
                  exact ⟨(r191.2, (v312 ++ [u24])), k29, h, Nat.lt_succ_self _, [], ⟨rfl, (congrArg (AV.row 1 1 0) (show (v312 ++ [u24]).length = (v312.length + ([.raw (.int .u8 r191.1)] : List PV).length) by simp [eu24])), trivial⟩, ⟨⟨rfl, rfl, rfl, trivial⟩, (congrArg (Bk.row 5 1) (show bl (v312 ++ [u24]) = (bl v312) ++ [.raw (.int .u8 r191.1)] by simp [eu24])), trivial⟩, rfl⟩
                · rintro v τ' hl' ⟨er191, rfl, rfl, rfl⟩
                  replace h := oup h
                  replace h := Option.some.inj h
                  subst h
                  exact ⟨[.box 131 [.dead, .dead]], ⟨⟨⟨rfl, trivial, trivial, trivial⟩, trivial⟩, rfl⟩, _, rfl, rfl, rfl⟩
      · replace h := cF h c
        exact ⟨(r186.2, v312), h, [], ⟨rfl, rfl, trivial⟩, ⟨⟨rfl, rfl, rfl, trivial⟩, rfl, trivial⟩, rfl⟩
    · rintro ⟨v304, v305⟩ h
      unfold m_impl_treeReader_leaf_j18 at h
      refine .inl ?_
      refine .inl ?_
      refine Exists.intro _ (And.intro (rowN rfl (show v305.length = (bl v305).length by simp)) ?_)
      refine Exists.intro (ofL v305) (And.intro (bl_bytes v305) ?_)
      replace h := Option.some.inj h
      subst h
      exact ⟨[.p (S (ofL v305))], [.box 131 [.p (S (gtreeReader.mk v304.s_ (wr .i64 (v304.i_ + 1))).s_), .p (I (gtreeReader.mk v304.s_ (wr .i64 (v304.i_ + 1))).i_)]], ⟨[], ⟨rfl, trivial⟩, ⟨⟨rfl, rfl, rfl, trivial⟩, trivial⟩, rfl⟩, rfl, _, rfl, rfl, rfl⟩
def m_impl_treeReader_tree_j11 (r199 : ByteArray × gtreeReader) (v346 : gtreeReader) (v347 : List Tree) : Option (Ou (Tree × gtreeReader)) :=
  some (.ok ((Tree.mk r199.1 ⟨#[]⟩ false v347), (gtreeReader.mk v346.s_ (wr .i64 (v346.i_ + 1)))))
def m_impl_treeReader_tree_j20 (self_impl_treeReader_tree : gtreeReader → Option (Ou (Tree × gtreeReader))) (n : Nat) (v355 : List Tree) (rec18 : Bool → gtreeReader → List Tree → Option (Ou (Tree × gtreeReader))) (v366 : gtreeReader) : Option (Ou (Tree × gtreeReader)) :=
  (self_impl_treeReader_tree v366).bind fun o => o.el (fun r256 =>
    gp (v355.length + ([r256.1] : List Tree).length ≤ 68719476736) <|
    (m_impl_treeReader_blanks n r256.2).bind fun r257 =>
    rec18 r257.1 r257.2 (v355 ++ [r256.1]))
    (fun er256 =>
      some (.pan er256))
def m_impl_treeReader_tree_j21 (self_impl_treeReader_tree : gtreeReader → Option (Ou (Tree × gtreeReader))) (n : Nat) (v355 : List Tree) (rec18 : Bool → gtreeReader → List Tree → Option (Ou (Tree × gtreeReader))) (v367 : Bool) (v368 : gtreeReader) : Option (Ou (Tree × gtreeReader)) :=
  bif v367 then (
    (m_impl_treeReader_bad n v368).bind fun o => o.el (fun r259 =>
      m_impl_treeReader_tree_j20 self_impl_treeReader_tree n v355 rec18 r259)
      (fun er259 =>
        some (.pan er259)))
  else (
    m_impl_treeReader_tree_j20 self_impl_treeReader_tree n v355 rec18 v368)
def m_impl_treeReader_tree_l18 (self_impl_treeReader_tree : gtreeReader → Option (Ou (Tree × gtreeReader))) (n : Nat) (r199 : ByteArray × gtreeReader) : Nat → Bool → gtreeReader → List Tree → Option (Ou (Tree × gtreeReader))
  | 0, _, _, _ => none
  | k18 + 1, v353, v354, v355 =>
    (m_impl_treeReader_at n v354).bind fun r251 =>
    bif (r251.1 != 41) then (
      bif (!v353) then (
        bif (((v355.length : Nat) : Int) == 0) then (
          (m_impl_treeReader_at n r251.2).bind fun r260 =>
          m_impl_treeReader_tree_j21 self_impl_treeReader_tree n v355 (m_impl_treeReader_tree_l18 self_impl_treeReader_tree n r199 k18) (!(r260.1 == 40)) r260.2)
        else (
          m_impl_treeReader_tree_j21 self_impl_treeReader_tree n v355 (m_impl_treeReader_tree_l18 self_impl_treeReader_tree n r199 k18) true r251.2))
      else (
        m_impl_treeReader_tree_j21 self_impl_treeReader_tree n v355 (m_impl_treeReader_tree_l18 self_impl_treeReader_tree n r199 k18) false r251.2))
    else (
      m_impl_treeReader_tree_j11 r199 r251.2 v355)
def m_impl_treeReader_tree : Nat → gtreeReader → Option (Ou (Tree × gtreeReader))
  | 0, _ => none
  | n + 1, a14 =>
    (m_impl_treeReader_at n a14).bind fun r195 =>
    bif (r195.1 != 40) then (
      (m_impl_treeReader_name n r195.2).bind fun o => o.el (fun r196 =>
        (m_impl_treeReader_leaf n r196.2).bind fun o => o.el (fun r197 =>
          some (.ok ((Tree.mk r196.1 r197.1 true []), r197.2)))
          (fun er197 =>
            some (.pan er197)))
        (fun er196 =>
          some (.pan er196)))
    else (
      (m_impl_treeReader_blanks n (gtreeReader.mk r195.2.s_ (wr .i64 (r195.2.i_ + 1)))).bind fun r198 =>
      (m_impl_treeReader_name n r198.2).bind fun o => o.el (fun r199 =>
        (m_impl_treeReader_blanks n r199.2).bind fun r200 =>
        m_impl_treeReader_tree_l18 (m_impl_treeReader_tree n) n r199 n r200.1 r200.2 [])
        (fun er199 =>
          some (.pan er199)))
theorem c_impl_treeReader_tree : ∀ (n : Nat) (a14 : gtreeReader) (r : Ou (Tree × gtreeReader)) (h : m_impl_treeReader_tree n a14 = some r), FnE Try.prog 103 [.ptr 0 0] [.box 131 [.p (S a14.s_), .p (I a14.i_)]] (fun rs τ' => ∃ x, r = .ok x ∧ rs = [.p (x.1.enc)] ∧ τ' = [.box 131 [.p (S x.2.s_), .p (I x.2.i_)]]) (fun v τ' => ∃ e, r = .pan e ∧ v = (.iface 127 (.agg #[.int .i64 e])) ∧ τ' = [.box 131 [.dead, .dead]])
  | 0, _, r, h => ns h
  | n + 1, a14, r, h => by
    have ih_impl_treeReader_tree := c_impl_treeReader_tree n
    unfold m_impl_treeReader_tree at h
    refine fn_introJE Try.func103 rfl rfl rfl ?_
    refine .inl ?_
    refine .inl ?_
    refine .inl ?_
    obtain ⟨r195, hr195, h⟩ := bsm h
    refine callW (args' := [.ptr 0 0]) (τ0 := [.box 131 [.p (S a14.s_), .p (I a14.i_)]]) [0] [] (c_impl_treeReader_at n a14 _ hr195) (fun K hk => hk) rfl ⟨rfl, trivial⟩ ⟨⟨rfl, rfl, rfl, trivial⟩, trivial⟩ rfl ?_
    rintro rs τ' hl' ⟨rfl, rfl⟩
    refine And.intro (fun c => ?_) (fun c => ?_)
    · replace h := cT h c
      refine .inl ?_
      obtain ⟨o, ho, h⟩ := bsm h
      refine callPan [0] (c_impl_treeReader_name n r195.2 _ ho) (fun K hk => hk) rfl ?_ ?_
      · rintro rs τ' hl' ⟨r196, rfl, rfl, rfl⟩
        replace h := ouk h
        refine .inl ?_
        obtain ⟨o, ho, h⟩ := bsm h
        refine callPan [0] (c_impl_treeReader_leaf n r196.2 _ ho) (fun K hk => hk) rfl ?_ ?_
        · rintro rs τ' hl' ⟨r197, rfl, rfl, rfl⟩
          replace h := ouk h
          refine .inl ?_
          replace h := Option.some.inj h
          subst h
          exact ⟨[.p ((Tree.mk r196.1 r197.1 true []).enc)], [.box 131 [.p (S r197.2.s_), .p (I r197.2.i_)]], ⟨[], ⟨rfl, trivial⟩, ⟨⟨rfl, rfl, rfl, trivial⟩, trivial⟩, rfl⟩, rfl, _, rfl, rfl, rfl⟩
        · rintro v τ' hl' ⟨er197, rfl, rfl, rfl⟩
          replace h := oup h
          replace h := Option.some.inj h
          subst h
          exact ⟨[.box 131 [.dead, .dead]], ⟨⟨⟨rfl, trivial, trivial, trivial⟩, trivial⟩, rfl⟩, _, rfl, rfl, rfl⟩
      · rintro v τ' hl' ⟨er196, rfl, rfl, rfl⟩
        replace h := oup h
        replace h := Option.some.inj h
        subst h
        exact ⟨[.box 131 [.dead, .dead]], ⟨⟨⟨rfl, trivial, trivial, trivial⟩, trivial⟩, rfl⟩, _, rfl, rfl, rfl⟩
    · replace h := cF h c
      refine .inl ?_
      refine .inl ?_
      obtain ⟨r198, hr198, h⟩ := bsm h
      refine callW (args' := [.ptr 0 0]) (τ0 := [.box 131 [.p (S (gtreeReader.mk r195.2.s_ (wr .i64 (r195.2.i_ + 1))).s_), .p (I (gtreeReader.mk r195.2.s_ (wr .i64 (r195.2.i_ + 1))).i_)]]) [0] [] (c_impl_treeReader_blanks n (gtreeReader.mk r195.2.s_ (wr .i64 (r195.2.i_ + 1))) _ hr198) (fun K hk => hk) rfl ⟨rfl, trivial⟩ ⟨⟨rfl, rfl, rfl, trivial⟩, trivial⟩ rfl ?_
      rintro rs τ' hl' ⟨rfl, rfl⟩
      refine .inl ?_
      obtain ⟨o, ho, h⟩ := bsm h
      refine callPan [0] (c_impl_treeReader_name n r198.2 _ ho) (fun K hk => hk) rfl ?_ ?_
      · rintro rs τ' hl' ⟨r199, rfl, rfl, rfl⟩
        replace h := ouk h
        refine .inl ?_
        obtain ⟨r200, hr200, h⟩ := bsm h
        refine callW (args' := [.ptr 0 0]) (τ0 := [.box 131 [.p (S r199.2.s_), .p (I r199.2.i_)]]) [0] [] (c_impl_treeReader_blanks n r199.2 _ hr200) (fun K hk => hk) rfl ⟨rfl, trivial⟩ ⟨⟨rfl, rfl, rfl, trivial⟩, trivial⟩ rfl ?_
        rintro rs τ' hl' ⟨rfl, rfl⟩
        refine .inr ⟨gtreeReader × List Tree, fun x => ([(0, .ptr 0 0), (2, .ptr 1 0), (4, .ptr 2 0)], [.box 131 [.p (S x.1.s_), .p (I x.1.i_)], .box 53 [.p (S ⟨#[]⟩), .p (S ⟨#[]⟩), .p (B false), .tl []], .box 53 [.p (S r199.1), .p (S ⟨#[]⟩), .p (B false), .row 3 4 0 x.2.length], .row 53 4 (encM x.2)]), fun x => m_impl_treeReader_tree_j11 r199 x.1 x.2 = some r, ?_, ?_⟩
        · refine ⟨Bool × gtreeReader × List Tree, fun x => ([(0, .ptr 0 0), (2, .ptr 1 0), (4, .ptr 2 0), (5, .p (B x.1))], [.box 131 [.p (S x.2.1.s_), .p (I x.2.1.i_)], .box 53 [.p (S ⟨#[]⟩), .p (S ⟨#[]⟩), .p (B false), .tl []], .box 53 [.p (S r199.1), .p (S ⟨#[]⟩), .p (B false), .row 3 4 0 x.2.2.length], .row 53 4 (encM x.2.2)]), fun x k => m_impl_treeReader_tree_l18 (m_impl_treeReader_tree n) n r199 k x.1 x.2.1 x.2.2 = some r, ⟨(r200.1, r200.2, []), n, h, [(53, 4)], ⟨rfl, rfl, rfl, rfl, trivial⟩, ⟨⟨rfl, rfl, rfl, trivial⟩, ⟨rfl, rfl, rfl, rfl, rfl, trivial⟩, ⟨rfl, rfl, rfl, rfl, ⟨rfl, rfl⟩, trivial⟩, rfl, trivial⟩, rfl⟩, ?_⟩
          rintro ⟨v353, v354, v355⟩ (_ | k18) h
          · exact ns h
          unfold m_impl_treeReader_tree_l18 at h
          refine .inl ?_
          refine .inl ?_
          obtain ⟨r251, hr251, h⟩ := bsm h
          refine callW (args' := [.ptr 0 0]) (τ0 := [.box 131 [.p (S v354.s_), .p (I v354.i_)]]) [0] [] (c_impl_treeReader_at n v354 _ hr251) (fun K hk => hk) rfl ⟨rfl, trivial⟩ ⟨⟨rfl, rfl, rfl, trivial⟩, trivial⟩ rfl ?_
          rintro rs τ' hl' ⟨rfl, rfl⟩
          refine And.intro (fun c => ?_) (fun c => ?_)
          · replace h := cT h c
            refine .inr ⟨gtreeReader, fun x => ([(0, .ptr 0 0), (2, .ptr 1 0), (4, .ptr 2 0)], [.box 131 [.p (S x.s_), .p (I x.i_)], .box 53 [.p (S ⟨#[]⟩), .p (S ⟨#[]⟩), .p (B false), .tl []], .box 53 [.p (S r199.1), .p (S ⟨#[]⟩), .p (B false), .row 3 4 0 v355.length], .row 53 4 (encM v355)]), fun x => m_impl_treeReader_tree_j20 (m_impl_treeReader_tree n) n v355 (m_impl_treeReader_tree_l18 (m_impl_treeReader_tree n) n r199 k18) x = some r, ?_, ?_⟩
            · refine .inr ⟨Bool × gtreeReader, fun x => ([(0, .ptr 0 0), (2, .ptr 1 0), (4, .ptr 2 0), (45, .p (B x.1))], [.box 131 [.p (S x.2.s_), .p (I x.2.i_)], .box 53 [.p (S ⟨#[]⟩), .p (S ⟨#[]⟩), .p (B false), .tl []], .box 53 [.p (S r199.1), .p (S ⟨#[]⟩), .p (B false), .row 3 4 0 v355.length], .row 53 4 (encM v355)]), fun x => m_impl_treeReader_tree_j21 (m_impl_treeReader_tree n) n v355 (m_impl_treeReader_tree_l18 (m_impl_treeReader_tree n) n r199 k18) x.1 x.2 = some r, ?_, ?_⟩
              · refine And.intro (fun c => ?_) (fun c => ?_)
                · replace h := cT h c
                  refine And.intro (fun _ => ?_) (fun c => absurd c (by decide))
                  refine And.intro (fun _ => ?_) (fun c => absurd c (by decide))
                  refine And.intro (fun _ => ?_) (fun c => absurd c (by decide))
                  refine And.intro (fun _ => ?_) (fun c => absurd c (by decide))
                  refine And.intro (fun c => ?_) (fun c => ?_)
                  · replace h := cT h c
                    refine And.intro (fun _ => ?_) (fun c => absurd c (by decide))
                    obtain ⟨r260, hr260, h⟩ := bsm h
                    refine callW (args' := [.ptr 0 0]) (τ0 := [.box 131 [.p (S r251.2.s_), .p (I r251.2.i_)]]) [0] [] (c_impl_treeReader_at n r251.2 _ hr260) (fun K hk => hk) rfl ⟨rfl, trivial⟩ ⟨⟨rfl, rfl, rfl, trivial⟩, trivial⟩ rfl ?_
                    rintro rs τ' hl' ⟨rfl, rfl⟩
                    refine And.intro (fun _ => ?_) (fun c => absurd c (by decide))
                    refine And.intro (fun _ => ?_) (fun c => absurd c (by decide))
                    refine And.intro (fun _ => ?_) (fun c => absurd c (by decide))
                    refine And.intro (fun _ => ?_) (fun c => absurd c (by decide))
                    refine And.intro (fun _ => ?_) (fun c => absurd c (by decide))
                    exact ⟨((!(r260.1 == 40)), r260.2), h, [], ⟨rfl, rfl, rfl, rfl, trivial⟩, ⟨⟨rfl, rfl, rfl, trivial⟩, ⟨rfl, rfl, rfl, rfl, rfl, trivial⟩, ⟨rfl, rfl, rfl, rfl, rfl, trivial⟩, rfl, trivial⟩, rfl⟩
                  · replace h := cF h c
                    refine And.intro (fun c => absurd c (by decide)) (fun _ => ?_)
                    refine And.intro (fun c => absurd c (by decide)) (fun _ => ?_)
                    refine And.intro (fun _ => ?_) (fun c => absurd c (by decide))
                    refine And.intro (fun c => absurd c (by decide)) (fun _ => ?_)
                    refine And.intro (fun _ => ?_) (fun c => absurd c (by decide))
                    refine And.intro (fun _ => ?_) (fun c => absurd c (by decide))
                    exact ⟨(true, r251.2), h, [], ⟨rfl, rfl, rfl, rfl, trivial⟩, ⟨⟨rfl, rfl, rfl, trivial⟩, ⟨rfl, rfl, rfl, rfl, rfl, trivial⟩, ⟨rfl, rfl, rfl, rfl, rfl, trivial⟩, rfl, trivial⟩, rfl⟩
                · replace h := cF h c
                  refine And.intro (fun c => absurd c (by decide)) (fun _ => ?_)
                  refine And.intro (fun c => absurd c (by decide)) (fun _ => ?_)
                  refine And.intro (fun c => absurd c (by decide)) (fun _ => ?_)
                  refine And.intro (fun c => absurd c (by decide)) (fun _ => ?_)
                  refine And.intro (fun c => absurd c (by decide)) (fun _ => ?_)
                  refine And.intro (fun c => absurd c (by decide)) (fun _ => ?_)
                  refine And.intro (fun c => absurd c (by decide)) (fun _ => ?_)
                  exact ⟨(false, r251.2), h, [], ⟨rfl, rfl, rfl, rfl, trivial⟩, ⟨⟨rfl, rfl, rfl, trivial⟩, ⟨rfl, rfl, rfl, rfl, rfl, trivial⟩, ⟨rfl, rfl, rfl, rfl, rfl, trivial⟩, rfl, trivial⟩, rfl⟩
              · rintro ⟨v367, v368⟩ h
                unfold m_impl_treeReader_tree_j21 at h
                refine And.intro (fun c => ?_) (fun c => ?_)
                · replace h := cT h c
                  obtain ⟨o, ho, h⟩ := bsm h
                  refine callPan [0] (c_impl_treeReader_bad n v368 _ ho) (fun K hk => hk) rfl ?_ ?_
                  · rintro rs τ' hl' ⟨r259, rfl, rfl, rfl⟩
                    replace h := ouk h
                    exact ⟨r259, h, [], ⟨rfl, rfl, rfl, trivial⟩, ⟨⟨rfl, rfl, rfl, trivial⟩, ⟨rfl, rfl, rfl, rfl, rfl, trivial⟩, ⟨rfl, rfl, rfl, rfl, rfl, trivial⟩, rfl, trivial⟩, rfl⟩
                  · rintro v τ' hl' ⟨er259, rfl, rfl, rfl⟩
                    replace h := oup h
                    replace h := Option.some.inj h
                    subst h
                    exact ⟨[.box 131 [.dead, .dead]], ⟨⟨⟨rfl, trivial, trivial, trivial⟩, trivial⟩, rfl⟩, _, rfl, rfl, rfl⟩
                · replace h := cF h c
                  exact ⟨v368, h, [], ⟨rfl, rfl, rfl, trivial⟩, ⟨⟨rfl, rfl, rfl, trivial⟩, ⟨rfl, rfl, rfl, rfl, rfl, trivial⟩, ⟨rfl, rfl, rfl, rfl, rfl, trivial⟩, rfl, trivial⟩, rfl⟩
            · rintro v366 h
              unfold m_impl_treeReader_tree_j20 at h
              refine .inl ?_
              refine ⟨[0, 1, 2, 3, 4, 5, 6, 1007], [0, 3, 4], by decide +kernel, ?_⟩
              obtain ⟨o, ho, h⟩ := bsm h
              refine callPan [0] (ih_impl_treeReader_tree v366 _ ho) (fun K hk => hk) rfl ?_ ?_
              · rintro rs τ' hl' ⟨r256, rfl, rfl, rfl⟩
                replace h := ouk h
                refine And.intro (show fits _ _ from ⟨⟨rfl, rfl⟩, trivial⟩) ?_
                obtain ⟨g12, h⟩ := gpT h
                refine Exists.intro ([r256.1.enc]) (And.intro (rowN rfl rfl) ?_)
                refine Exists.intro (encM v355) (And.intro (rowX (rowN rfl (show v355.length = (encM v355).length by simp)) (show fits _ _ from ⟨⟨rfl, rfl⟩, trivial⟩) (appfitJ (by first | simpa using g12 | (simp at g12 ⊢; omega)) rfl)) ?_)
                obtain ⟨r257, hr257, h⟩ := bsm h
                refine callW (args' := [.ptr 0 0]) (τ0 := [.box 131 [.p (S r256.2.s_), .p (I r256.2.i_)]]) [0] [] (c_impl_treeReader_blanks n r256.2 _ hr257) (fun K hk => hk) rfl ⟨rfl, trivial⟩ ⟨⟨rfl, rfl, rfl, trivial⟩, trivial⟩ rfl ?_
                rintro rs τ' hl' ⟨rfl, rfl⟩
                exact ⟨(r257.1, r257.2, (v355 ++ [r256.1])), k18, h, Nat.lt_succ_self _, [], ⟨rfl, rfl, rfl, rfl, trivial⟩, ⟨⟨rfl, rfl, rfl, trivial⟩, ⟨rfl, rfl, rfl, rfl, rfl, trivial⟩, ⟨rfl, rfl, rfl, rfl, (congrArg (AV.row 3 4 0) (show (v355 ++ [r256.1]).length = (v355.length + ([r256.1.enc] : List PV).length) by simp)), trivial⟩, (congrArg (Bk.row 53 4) (show encM (v355 ++ [r256.1]) = (encM v355) ++ [r256.1.enc] by simp)), trivial⟩, rfl⟩
              · rintro v τ' hl' ⟨er256, rfl, rfl, rfl⟩
                replace h := oup h
                replace h := Option.some.inj h
                subst h
                exact ⟨[.box 131 [.dead, .dead]], ⟨⟨⟨rfl, trivial, trivial, trivial⟩, trivial⟩, rfl⟩, _, rfl, rfl, rfl⟩
          · replace h := cF h c
            exact ⟨(r251.2, v355), h, [], ⟨rfl, rfl, rfl, trivial⟩, ⟨⟨rfl, rfl, rfl, trivial⟩, ⟨rfl, rfl, rfl, rfl, rfl, trivial⟩, ⟨rfl, rfl, rfl, rfl, rfl, trivial⟩, rfl, trivial⟩, rfl⟩
        · rintro ⟨v346, v347⟩ h
          unfold m_impl_treeReader_tree_j11 at h
          refine .inl ?_
          refine .inl ?_
          refine .inl (Exists.intro _ (And.intro (rowN rfl (show v347.length = (encM v347).length by simp)) ?_))
          replace h := Option.some.inj h
          subst h
          exact ⟨[.p ((Tree.mk r199.1 ⟨#[]⟩ false v347).enc)], [.box 131 [.p (S (gtreeReader.mk v346.s_ (wr .i64 (v346.i_ + 1))).s_), .p (I (gtreeReader.mk v346.s_ (wr .i64 (v346.i_ + 1))).i_)]], ⟨[], ⟨rfl, trivial⟩, ⟨⟨rfl, rfl, rfl, trivial⟩, trivial⟩, rfl⟩, rfl, _, rfl, rfl, rfl⟩
      · rintro v τ' hl' ⟨er199, rfl, rfl, rfl⟩
        replace h := oup h
        replace h := Option.some.inj h
        subst h
        exact ⟨[.box 131 [.dead, .dead]], ⟨⟨⟨rfl, trivial, trivial, trivial⟩, trivial⟩, rfl⟩, _, rfl, rfl, rfl⟩
def m_impl_TreeRead_1_rnone (n : Nat) (a16 : Tree) (a17 : Int) (a18 : Int) : Option (Tree × Int × Int) :=
  some (a16, a17, a18)
theorem c_impl_TreeRead_1_rnone (n : Nat) (a16 : Tree) (a17 : Int) (a18 : Int) (r : Tree × Int × Int) (h : m_impl_TreeRead_1_rnone n a16 a17 a18 = some r) : FnR Try.prog 101 [.ptr 0 0, .ptr 1 0, .ptr 2 0] [.box 53 [.p (S a16.nm), .p (S a16.tx), .p (B a16.lf), .p (.lst (encM a16.ks))], .box 3 [.p (I a17)], .box 3 [.p (I a18)]] none (fun τ' => τ' = [.box 53 [.p (S r.1.nm), .p (S r.1.tx), .p (B r.1.lf), .p (.lst (encM r.1.ks))], .box 3 [.p (I r.2.1)], .box 3 [.p (I r.2.2)]]) := by
  unfold m_impl_TreeRead_1_rnone at h
  refine fn_introR Try.func101 rfl rfl rfl rfl rfl rfl rfl rfl rfl rfl rfl ?_
  refine .inl ?_
  refine And.intro (fun c => absurd c (by decide)) (fun _ => ?_)
  replace h := Option.some.inj h
  subst h
  exact ⟨[], [.box 53 [.p (S a16.nm), .p (S a16.tx), .p (B a16.lf), .p (.lst (encM a16.ks))], .box 3 [.p (I a17)], .box 3 [.p (I a18)]], ⟨[], trivial, ⟨⟨rfl, rfl, rfl, rfl, rfl, trivial⟩, ⟨rfl, rfl, trivial⟩, ⟨rfl, rfl, trivial⟩, trivial⟩, rfl⟩, rfl, rfl⟩
def m_impl_TreeRead_1_rsome (n : Nat) (e' : Int) (a19 : Tree) (a20 : Int) (a21 : Int) : Option (Tree × Int × Int) :=
  some ((Tree.mk ⟨#[]⟩ ⟨#[]⟩ false []), 2, e')
theorem c_impl_TreeRead_1_rsome (n : Nat) (e' : Int) (a19 : Tree) (a20 : Int) (a21 : Int) (r : Tree × Int × Int) (h : m_impl_TreeRead_1_rsome n e' a19 a20 a21 = some r) : FnR Try.prog 101 [.ptr 0 0, .ptr 1 0, .ptr 2 0] [.box 53 [.p (S a19.nm), .p (S a19.tx), .p (B a19.lf), .p (.lst (encM a19.ks))], .box 3 [.p (I a20)], .box 3 [.p (I a21)]] (some (.iface 127 (.agg #[.int .i64 e']))) (fun τ' => τ' = [.box 53 [.p (S r.1.nm), .p (S r.1.tx), .p (B r.1.lf), .p (.lst (encM r.1.ks))], .box 3 [.p (I r.2.1)], .box 3 [.p (I r.2.2)]]) := by
  unfold m_impl_TreeRead_1_rsome at h
  refine fn_introR Try.func101 rfl rfl rfl rfl rfl rfl rfl rfl rfl rfl rfl ?_
  refine .inl ?_
  refine And.intro (fun _ => ?_) (fun c => absurd c (by decide))
  refine .inl ?_
  refine .inl ?_
  refine .inl ?_
  refine And.intro (fun c => absurd c (by decide)) (fun _ => ?_)
  refine ⟨[0, 1, 2, 3, 4, 1005], [0, 1], by decide +kernel, ?_⟩
  replace h := Option.some.inj h
  subst h
  exact ⟨[], [.box 53 [.p (S (Tree.mk ⟨#[]⟩ ⟨#[]⟩ false []).nm), .p (S (Tree.mk ⟨#[]⟩ ⟨#[]⟩ false []).tx), .p (B (Tree.mk ⟨#[]⟩ ⟨#[]⟩ false []).lf), .p (.lst (encM (Tree.mk ⟨#[]⟩ ⟨#[]⟩ false []).ks))], .box 3 [.p (I 2)], .box 3 [.p (I e')]], ⟨[], trivial, ⟨⟨rfl, rfl, rfl, rfl, rfl, trivial⟩, ⟨rfl, rfl, trivial⟩, ⟨rfl, rfl, trivial⟩, trivial⟩, rfl⟩, rfl, rfl⟩
def m_impl_TreeRead_j1 (n : Nat) (r262 : Tree × gtreeReader) : Option (Tree × Int × Int) :=
  (m_impl_TreeOK n r262.1).bind fun r265 =>
  bif (!r265) then (
    (m_impl_TreeRead_1_rnone n (Tree.mk ⟨#[]⟩ ⟨#[]⟩ false []) 3 0).bind fun r266 =>
    some (r266.1, r266.2.1, r266.2.2))
  else (
    (m_impl_TreeRead_1_rnone n r262.1 0 0).bind fun r267 =>
    some (r267.1, r267.2.1, r267.2.2))
def m_impl_TreeRead (n : Nat) (a15 : ByteArray) : Option (Tree × Int × Int) :=
  bif (decide ((a15.size : Int) > 20000)) then (
    some ((Tree.mk ⟨#[]⟩ ⟨#[]⟩ false []), 1, 0))
  else (
    (m_impl_treeReader_blanks n (gtreeReader.mk a15 0)).bind fun r261 =>
    (m_impl_treeReader_tree n r261.2).bind fun o => o.el (fun r262 =>
      (m_impl_treeReader_blanks n r262.2).bind fun r263 =>
      bif (decide (r263.2.i_ < (a15.size : Int))) then (
        (m_impl_treeReader_bad n r263.2).bind fun o => o.el (fun r268 =>
          m_impl_TreeRead_j1 n r262)
          (fun er268 =>
            (m_impl_TreeRead_1_rsome n er268 r262.1 0 0).bind fun r269 =>
            some (r269.1, r269.2.1, r269.2.2)))
      else (
        m_impl_TreeRead_j1 n r262))
      (fun er262 =>
        (m_impl_TreeRead_1_rsome n er262 (Tree.mk ⟨#[]⟩ ⟨#[]⟩ false []) 0 0).bind fun r270 =>
        some (r270.1, r270.2.1, r270.2.2)))
theorem c_impl_TreeRead (n : Nat) (a15 : ByteArray) (r : Tree × Int × Int) (h : m_impl_TreeRead n a15 = some r) : FnP Try.prog 59 [S a15] [r.1.enc, I r.2.1, I r.2.2] := by
  unfold m_impl_TreeRead at h
  refine fn_introD Try.func59 rfl rfl rfl ?_
  refine .inl ?_
  refine And.intro (fun c => ?_) (fun c => ?_)
  · replace h := cT h c
    refine .inl ?_
    refine .inl ?_
    replace h := Option.some.inj h
    subst h
    exact ⟨[.p ((Tree.mk ⟨#[]⟩ ⟨#[]⟩ false []).enc), .p (I 1), .p (I 0)], [], ⟨[], ⟨rfl, rfl, rfl, trivial⟩, trivial, rfl⟩, rfl, rfl, rfl⟩
  · replace h := cF h c
    refine And.intro rfl ?_
    refine .inl ?_
    refine .inl ?_
    obtain ⟨r261, hr261, h⟩ := bsm h
    refine callW (args' := [.ptr 0 0]) (τ0 := [.box 131 [.p (S (gtreeReader.mk a15 0).s_), .p (I (gtreeReader.mk a15 0).i_)]]) [3] [] (c_impl_treeReader_blanks n (gtreeReader.mk a15 0) _ hr261) (fun K hk => hk) rfl ⟨rfl, trivial⟩ ⟨⟨rfl, rfl, rfl, trivial⟩, trivial⟩ rfl ?_
    rintro rs τ' hl' ⟨rfl, rfl⟩
    refine .inl ?_
    obtain ⟨o, ho, h⟩ := bsm h
    refine callPan [3] (c_impl_treeReader_tree n r261.2 _ ho) (fun K hk => hk) rfl ?_ ?_
    · rintro rs τ' hl' ⟨r262, rfl, rfl, rfl⟩
      replace h := ouk h
      refine .inl ?_
      obtain ⟨r263, hr263, h⟩ := bsm h
      refine callW (args' := [.ptr 0 0]) (τ0 := [.box 131 [.p (S r262.2.s_), .p (I r262.2.i_)]]) [3] [] (c_impl_treeReader_blanks n r262.2 _ hr263) (fun K hk => hk) rfl ⟨rfl, trivial⟩ ⟨⟨rfl, rfl, rfl, trivial⟩, trivial⟩ rfl ?_
      rintro rs τ' hl' ⟨rfl, rfl⟩
      refine .inr ⟨Unit, fun x => ([(2, .ptr 0 0), (3, .ptr 1 0), (4, .ptr 2 0)], [.box 53 [.p (S r262.1.nm), .p (S r262.1.tx), .p (B r262.1.lf), .p (.lst (encM r262.1.ks))], .box 3 [.p (I 0)], .box 3 [.p (I 0)]]), fun x => m_impl_TreeRead_j1 n r262 = some r, ?_, ?_⟩
      · refine .inl ?_
        refine And.intro (fun c => ?_) (fun c => ?_)
        · replace h := cT h c
          obtain ⟨o, ho, h⟩ := bsm h
          refine callPan [3] (c_impl_treeReader_bad n r263.2 _ ho) (fun K hk => hk) rfl ?_ ?_
          · rintro rs τ' hl' ⟨r268, rfl, rfl, rfl⟩
            replace h := ouk h
            exact ⟨(), h, [], ⟨rfl, rfl, rfl, trivial⟩, ⟨⟨rfl, rfl, rfl, rfl, rfl, trivial⟩, ⟨rfl, rfl, trivial⟩, ⟨rfl, rfl, trivial⟩, trivial⟩, rfl⟩
          · rintro v τ' hl' ⟨er268, rfl, rfl, rfl⟩
            replace h := oup h
            obtain ⟨r269, hr269, h⟩ := bsm h
            refine ⟨[0, 1, 2], rfl, _, (c_impl_TreeRead_1_rsome n er268 r262.1 0 0 _ hr269).weak [] ⟨rfl, rfl, rfl, trivial⟩ ⟨⟨rfl, rfl, rfl, rfl, rfl, trivial⟩, ⟨rfl, rfl, trivial⟩, ⟨rfl, rfl, trivial⟩, trivial⟩ rfl, ?_⟩
            rintro τ' hl' rfl
            replace h := Option.some.inj h
            subst h
            exact ⟨[.p (r269.1.enc), .p (I r269.2.1), .p (I r269.2.2)], [], ⟨[], ⟨rfl, rfl, rfl, trivial⟩, trivial, rfl⟩, rfl, rfl, rfl⟩
        · replace h := cF h c
          exact ⟨(), h, [], ⟨rfl, rfl, rfl, trivial⟩, ⟨⟨rfl, rfl, rfl, rfl, rfl, trivial⟩, ⟨rfl, rfl, trivial⟩, ⟨rfl, rfl, trivial⟩, trivial⟩, rfl⟩
      · rintro _ h
        unfold m_impl_TreeRead_j1 at h
        refine .inl ?_
        refine .inl ?_
        obtain ⟨r265, hr265, h⟩ := bsm h
        refine callA (c_impl_TreeOK n r262.1 _ hr265) ?_
        refine And.intro (fun c => ?_) (fun c => ?_)
        · replace h := cT h c
          refine .inl ?_
          obtain ⟨r266, hr266, h⟩ := bsm h
          refine ⟨[0, 1, 2], rfl, _, (c_impl_TreeRead_1_rnone n (Tree.mk ⟨#[]⟩ ⟨#[]⟩ false []) 3 0 _ hr266).weak [] ⟨rfl, rfl, rfl, trivial⟩ ⟨⟨rfl, rfl, rfl, rfl, rfl, trivial⟩, ⟨rfl, rfl, trivial⟩, ⟨rfl, rfl, trivial⟩, trivial⟩ rfl, ?_⟩
          rintro τ' hl' rfl
          replace h := Option.some.inj h
          subst h
          exact ⟨[.p (r266.1.enc), .p (I r266.2.1), .p (I r266.2.2)], [], ⟨[], ⟨rfl, rfl, rfl, trivial⟩, trivial, rfl⟩, rfl, rfl, rfl⟩
        · replace h := cF h c
          refine .inl ?_
          obtain ⟨r267, hr267, h⟩ := bsm h
          refine ⟨[0, 1, 2], rfl, _, (c_impl_TreeRead_1_rnone n r262.1 0 0 _ hr267).weak [] ⟨rfl, rfl, rfl, trivial⟩ ⟨⟨rfl, rfl, rfl, rfl, rfl, trivial⟩, ⟨rfl, rfl, trivial⟩, ⟨rfl, rfl, trivial⟩, trivial⟩ rfl, ?_⟩
          rintro τ' hl' rfl
          replace h := Option.some.inj h
          subst h
          exact ⟨[.p (r267.1.enc), .p (I r267.2.1), .p (I r267.2.2)], [], ⟨[], ⟨rfl, rfl, rfl, trivial⟩, trivial, rfl⟩, rfl, rfl, rfl⟩
    · rintro v τ' hl' ⟨er262, rfl, rfl, rfl⟩
      replace h := oup h
      obtain ⟨r270, hr270, h⟩ := bsm h
      refine ⟨[0, 1, 2], rfl, _, (c_impl_TreeRead_1_rsome n er262 (Tree.mk ⟨#[]⟩ ⟨#[]⟩ false []) 0 0 _ hr270).weak [] ⟨rfl, rfl, rfl, trivial⟩ ⟨⟨rfl, rfl, rfl, rfl, rfl, trivial⟩, ⟨rfl, rfl, trivial⟩, ⟨rfl, rfl, trivial⟩, trivial⟩ rfl, ?_⟩
      rintro τ' hl' rfl
      replace h := Option.some.inj h
      subst h
      exact ⟨[.p (r270.1.enc), .p (I r270.2.1), .p (I r270.2.2)], [], ⟨[], ⟨rfl, rfl, rfl, trivial⟩, trivial, rfl⟩, rfl, rfl, rfl⟩
def m_laws_FnTreeText (n : Nat) (a22 : List UInt8) : Option Bool :=
  (m_laws_big n a22).bind fun r271 =>
  bif r271 then (
    some true)
  else (
    (m_spec_DrawTreeShow n a22).bind fun r272 =>
    (m_spec_TreeShow n r272).bind fun r273 =>
    (m_spec_DrawTreeShow n a22).bind fun r274 =>
    (m_impl_TreeShow n r274).bind fun r275 =>
    bif (!decide (r275.1 = r273.1)) then (
      some false)
    else (
      bif (r275.2 != r273.2) then (
        some false)
      else (
        bif (r275.2 != 0) then (
          some true)
        else (
          (m_impl_TreeRead n r275.1).bind fun r276 =>
          bif (r276.2.1 != 0) then (
            some false)
          else (
            bif (r276.2.2 != 0) then (
              some false)
            else (
              (m_spec_DrawTreeShow n a22).bind fun r283 =>
              (m_laws_sameTree n r276.1 r283).bind fun r284 =>
              bif (!r284) then (
                some false)
              else (
                gp (0 ≤ (0 : Int) ∧ (0 : Int) ≤ (wr .i64 ((r275.1.size : Int) - 1)) ∧ (wr .i64 ((r275.1.size : Int) - 1)) ≤ (r275.1.size : Int)) <|
                (m_impl_TreeRead n (r275.1.extract (0 : Int).toNat (wr .i64 ((r275.1.size : Int) - 1)).toNat)).bind fun r285 =>
                bif (r285.2.1 != 2) then (
                  some false)
                else (
                  bif (r285.2.2 != (wr .i64 ((r275.1.size : Int) - 1))) then (
                    some false)
                  else (
                    bif (decide ((r275.1.size : Int) > 19997)) then (
                      some true)
                    else (
                      gp ((((⟨#[32, 10]⟩ : ByteArray).size + r275.1.size : Nat) : Int) ≤ 9223372036854775807) <|
                      gp (((((⟨#[32, 10]⟩ : ByteArray) ++ r275.1).size + (⟨#[32]⟩ : ByteArray).size : Nat) : Int) ≤ 9223372036854775807) <|
                      (m_impl_TreeRead n (((⟨#[32, 10]⟩ : ByteArray) ++ r275.1) ++ ⟨#[32]⟩)).bind fun r286 =>
                      bif (r286.2.1 == 0) then (
                        (m_laws_sameTree n r286.1 r276.1).bind fun r287 =>
                        some r287)
                      else (
                        some false)))))))))))
theorem c_laws_FnTreeText (n : Nat) (a22 : List UInt8) (r : Bool) (h : m_laws_FnTreeText n a22 = some r) : FnP Try.prog 13 [.lst (bl a22)] [B r] := by
  unfold m_laws_FnTreeText at h
  refine fn_introJ Try.func13 rfl rfl rfl ?_
  refine .inl ?_
  refine .inl ?_
  refine .inl ?_
  obtain ⟨r271, hr271, h⟩ := bsm h
  refine callA (c_laws_big n a22 _ hr271) ?_
  refine And.intro (fun c => ?_) (fun c => ?_)
  · replace h := cT h c
    refine .inl ?_
    replace h := Option.some.inj h
    subst h
    exact ⟨[.p (B true)], [], ⟨[], ⟨rfl, trivial⟩, trivial, rfl⟩, rfl, rfl, rfl⟩
  · replace h := cF h c
    refine .inl ?_
    obtain ⟨r272, hr272, h⟩ := bsm h
    refine callA (c_spec_DrawTreeShow n a22 _ hr272) ?_
    obtain ⟨r273, hr273, h⟩ := bsm h
    refine callA (c_spec_TreeShow n r272 _ hr273) ?_
    refine .inl ?_
    obtain ⟨r274, hr274, h⟩ := bsm h
    refine callA (c_spec_DrawTreeShow n a22 _ hr274) ?_
    obtain ⟨r275, hr275, h⟩ := bsm h
    refine callA (c_impl_TreeShow n r274 _ hr275) ?_
    refine .inl ?_
    refine .inl ?_
    refine And.intro (fun c => ?_) (fun c => ?_)
    · replace h := cF h c
      refine And.intro (fun _ => ?_) (fun c => absurd c (by decide))
      refine And.intro (fun _ => ?_) (fun c => absurd c (by decide))
      refine And.intro (fun c => absurd c (by decide)) (fun _ => ?_)
      refine And.intro (fun c => ?_) (fun c => ?_)
      · replace h := cT h c
        refine .inl ?_
        replace h := Option.some.inj h
        subst h
        exact ⟨[.p (B false)], [], ⟨[], ⟨rfl, trivial⟩, trivial, rfl⟩, rfl, rfl, rfl⟩
      · replace h := cF h c
        refine .inl ?_
        refine .inl ?_
        refine And.intro (fun c => ?_) (fun c => ?_)
        · replace h := cT h c
          refine .inl ?_
          replace h := Option.some.inj h
          subst h
          exact ⟨[.p (B true)], [], ⟨[], ⟨rfl, trivial⟩, trivial, rfl⟩, rfl, rfl, rfl⟩
        · replace h := cF h c
          refine .inl ?_
          obtain ⟨r276, hr276, h⟩ := bsm h
          refine callA (c_impl_TreeRead n r275.1 _ hr276) ?_
          refine .inl ?_
          refine .inl ?_
          refine ⟨[0, 1, 2, 3, 4, 5, 6, 7, 8, 9, 10, 11, 12], [], by decide +kernel, ?_⟩
          refine And.intro (fun c => ?_) (fun c => ?_)
          · replace h := cF h c
            refine And.intro (fun _ => ?_) (fun c => absurd c (by decide))
            refine And.intro (fun c => absurd c (by decide)) (fun _ => ?_)
            refine And.intro (fun c => ?_) (fun c => ?_)
            · replace h := cF h c
              refine And.intro (fun _ => ?_) (fun c => absurd c (by decide))
              refine And.intro (fun _ => ?_) (fun c => absurd c (by decide))
              obtain ⟨r283, hr283, h⟩ := bsm h
              refine callA (c_spec_DrawTreeShow n a22 _ hr283) ?_
              refine And.intro (fun _ => ?_) (fun c => absurd c (by decide))
              obtain ⟨r284, hr284, h⟩ := bsm h
              refine callA (c_laws_sameTree n r276.1 r283 _ hr284) ?_
              refine And.intro (fun _ => ?_) (fun c => absurd c (by decide))
              refine And.intro (fun c => absurd c (by decide)) (fun _ => ?_)
              refine And.intro (fun c => ?_) (fun c => ?_)
              · replace h := cT h c
                refine .inl ?_
                replace h := Option.some.inj h
                subst h
                exact ⟨[.p (B false)], [], ⟨[], ⟨rfl, trivial⟩, trivial, rfl⟩, rfl, rfl, rfl⟩
              · replace h := cF h c
                refine .inl ?_
                obtain ⟨g3, h⟩ := gpT h
                refine And.intro g3 ?_
                obtain ⟨r285, hr285, h⟩ := bsm h
                refine callA (c_impl_TreeRead n (r275.1.extract (0 : Int).toNat (wr .i64 ((r275.1.size : Int) - 1)).toNat) _ hr285) ?_
                refine .inl ?_
                refine .inl ?_
                refine And.intro (fun c => ?_) (fun c => ?_)
                · replace h := cF h c
                  refine And.intro (fun _ => ?_) (fun c => absurd c (by decide))
                  refine And.intro (fun _ => ?_) (fun c => absurd c (by decide))
                  refine And.intro (fun _ => ?_) (fun c => absurd c (by decide))
                  refine And.intro (fun _ => ?_) (fun c => absurd c (by decide))
                  refine And.intro (fun c => absurd c (by decide)) (fun _ => ?_)
                  refine And.intro (fun c => ?_) (fun c => ?_)
                  · replace h := cT h c
                    refine .inl ?_
                    replace h := Option.some.inj h
                    subst h
                    exact ⟨[.p (B false)], [], ⟨[], ⟨rfl, trivial⟩, trivial, rfl⟩, rfl, rfl, rfl⟩
                  · replace h := cF h c
                    refine .inl ?_
                    refine .inl ?_
                    refine And.intro (fun c => ?_) (fun c => ?_)
                    · replace h := cT h c
                      refine .inl ?_
                      replace h := Option.some.inj h
                      subst h
                      exact ⟨[.p (B true)], [], ⟨[], ⟨rfl, trivial⟩, trivial, rfl⟩, rfl, rfl, rfl⟩
                    · replace h := cF h c
                      refine .inl ?_
                      obtain ⟨g2, h⟩ := gpT h
                      refine And.intro g2 ?_
                      obtain ⟨g1, h⟩ := gpT h
                      refine And.intro g1 ?_
                      obtain ⟨r286, hr286, h⟩ := bsm h
                      refine callA (c_impl_TreeRead n (((⟨#[32, 10]⟩ : ByteArray) ++ r275.1) ++ ⟨#[32]⟩) _ hr286) ?_
                      refine .inl ?_
                      refine And.intro (fun c => ?_) (fun c => ?_)
                      · replace h := cT h c
                        refine And.intro (fun _ => ?_) (fun c => absurd c (by decide))
                        refine And.intro (fun _ => ?_) (fun c => absurd c (by decide))
                        obtain ⟨r287, hr287, h⟩ := bsm h
                        refine callA (c_laws_sameTree n r286.1 r276.1 _ hr287) ?_
                        refine And.intro (fun _ => ?_) (fun c => absurd c (by decide))
                        replace h := Option.some.inj h
                        subst h
                        exact ⟨[.p (B r287)], [], ⟨[], ⟨rfl, trivial⟩, trivial, rfl⟩, rfl, rfl, rfl⟩
                      · replace h := cF h c
                        refine And.intro (fun c => absurd c (by decide)) (fun _ => ?_)
                        refine And.intro (fun c => absurd c (by decide)) (fun _ => ?_)
                        refine And.intro (fun c => absurd c (by decide)) (fun _ => ?_)
                        replace h := Option.some.inj h
                        subst h
                        exact ⟨[.p (B false)], [], ⟨[], ⟨rfl, trivial⟩, trivial, rfl⟩, rfl, rfl, rfl⟩
                · replace h := cT h c
                  refine And.intro (fun c => absurd c (by decide)) (fun _ => ?_)
                  refine And.intro (fun c => absurd c (by decide)) (fun _ => ?_)
                  refine And.intro (fun c => absurd c (by decide)) (fun _ => ?_)
                  refine And.intro (fun c => absurd c (by decide)) (fun _ => ?_)
                  refine And.intro (fun _ => ?_) (fun c => absurd c (by decide))
                  refine And.intro (fun _ => ?_) (fun c => absurd c (by decide))
                  refine .inl ?_
                  replace h := Option.some.inj h
                  subst h
                  exact ⟨[.p (B false)], [], ⟨[], ⟨rfl, trivial⟩, trivial, rfl⟩, rfl, rfl, rfl⟩
            · replace h := cT h c
              refine And.intro (fun c => absurd c (by decide)) (fun _ => ?_)
              refine And.intro (fun c => absurd c (by decide)) (fun _ => ?_)
              refine And.intro (fun c => absurd c (by decide)) (fun _ => ?_)
              refine And.intro (fun c => absurd c (by decide)) (fun _ => ?_)
              refine And.intro (fun _ => ?_) (fun c => absurd c (by decide))
              refine And.intro (fun _ => ?_) (fun c => absurd c (by decide))
              refine .inl ?_
              replace h := Option.some.inj h
              subst h
              exact ⟨[.p (B false)], [], ⟨[], ⟨rfl, trivial⟩, trivial, rfl⟩, rfl, rfl, rfl⟩
          · replace h := cT h c
            refine And.intro (fun c => absurd c (by decide)) (fun _ => ?_)
            refine And.intro (fun _ => ?_) (fun c => absurd c (by decide))
            refine And.intro (fun c => absurd c (by decide)) (fun _ => ?_)
            refine And.intro (fun c => absurd c (by decide)) (fun _ => ?_)
            refine And.intro (fun c => absurd c (by decide)) (fun _ => ?_)
            refine And.intro (fun c => absurd c (by decide)) (fun _ => ?_)
            refine And.intro (fun c => absurd c (by decide)) (fun _ => ?_)
            refine And.intro (fun _ => ?_) (fun c => absurd c (by decide))
            refine And.intro (fun _ => ?_) (fun c => absurd c (by decide))
            refine .inl ?_
            replace h := Option.some.inj h
            subst h
            exact ⟨[.p (B false)], [], ⟨[], ⟨rfl, trivial⟩, trivial, rfl⟩, rfl, rfl, rfl⟩
    · replace h := cT h c
      refine And.intro (fun c => absurd c (by decide)) (fun _ => ?_)
      refine And.intro (fun c => absurd c (by decide)) (fun _ => ?_)
      refine And.intro (fun _ => ?_) (fun c => absurd c (by decide))
      refine And.intro (fun _ => ?_) (fun c => absurd c (by decide))
      refine .inl ?_
      replace h := Option.some.inj h
      subst h
      exact ⟨[.p (B false)], [], ⟨[], ⟨rfl, trivial⟩, trivial, rfl⟩, rfl, rfl, rfl⟩
end Go.Proofs.Ytgdecbliegelmaa.Z
