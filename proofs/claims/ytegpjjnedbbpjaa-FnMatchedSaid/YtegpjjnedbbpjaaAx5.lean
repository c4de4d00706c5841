/- Printed: models and contracts. -/
import Derived.Test.YtegpjjnedbbpjaaGvB
set_option linter.unusedVariables false
set_option linter.unusedSimpArgs false
set_option linter.unnecessarySimpa false
set_option maxRecDepth 100000
namespace Go.Proofs.Ytegpjjnedbbpjaa.Z
open Go Go.RowKit Go.Proofs.Sy Go.Proofs
structure gBind where
  name_ : ByteArray
  tree_ : Tree
def gBind.enc (x : gBind) : PV := .agg [S x.name_, S x.tree_.nm, S x.tree_.tx, B x.tree_.lf, .lst (encM x.tree_.ks)]
def m_spec_l01Letter (n : Nat) (a1 : Int) : Option Bool :=
  bif (decide (a1 ≥ 97)) then (
    bif (decide (a1 ≤ 122)) then (
      some true)
    else (
      bif (decide (a1 ≥ 65)) then (
        some (decide (a1 ≤ 90)))
      else (
        some false)))
  else (
    bif (decide (a1 ≥ 65)) then (
      some (decide (a1 ≤ 90)))
    else (
      some false))
theorem c_spec_l01Letter (n : Nat) (a1 : Int) (r : Bool) (h : m_spec_l01Letter n a1 = some r) : FnP Try.prog 179 [.raw (.int .u8 a1)] [B r] := by
  unfold m_spec_l01Letter at h
  refine fn_introJ Try.func179 rfl rfl rfl ?_
  refine .inl ?_
  refine .inl ?_
  refine And.intro (fun c => ?_) (fun c => ?_)
  · replace h := cT h c
    refine And.intro (fun _ => ?_) (fun c => absurd c (by decide))
    refine And.intro (fun _ => ?_) (fun c => absurd c (by decide))
    refine And.intro (fun c => ?_) (fun c => ?_)
    · replace h := cF h c
      refine And.intro (fun _ => ?_) (fun c => absurd c (by decide))
      refine And.intro (fun _ => ?_) (fun c => absurd c (by decide))
      refine And.intro (fun c => ?_) (fun c => ?_)
      · replace h := cT h c
        refine And.intro (fun _ => ?_) (fun c => absurd c (by decide))
        refine And.intro (fun _ => ?_) (fun c => absurd c (by decide))
        refine And.intro (fun _ => ?_) (fun c => absurd c (by decide))
        refine And.intro (fun c => absurd c (by decide)) (fun _ => ?_)
        replace h := Option.some.inj h
        subst h
        exact ⟨[.p (B (decide (a1 ≤ 90)))], [], ⟨[], ⟨rfl, trivial⟩, trivial, rfl⟩, rfl, rfl, rfl⟩
      · replace h := cF h c
        refine And.intro (fun c => absurd c (by decide)) (fun _ => ?_)
        refine And.intro (fun _ => ?_) (fun c => absurd c (by decide))
        refine And.intro (fun c => absurd c (by decide)) (fun _ => ?_)
        refine And.intro (fun c => absurd c (by decide)) (fun _ => ?_)
        replace h := Option.some.inj h
        subst h
        exact ⟨[.p (B false)], [], ⟨[], ⟨rfl, trivial⟩, trivial, rfl⟩, rfl, rfl, rfl⟩
    · replace h := cT h c
      refine And.intro (fun c => absurd c (by decide)) (fun _ => ?_)
      refine And.intro (fun c => absurd c (by decide)) (fun _ => ?_)
      refine And.intro (fun c => absurd c (by decide)) (fun _ => ?_)
      refine And.intro (fun _ => ?_) (fun c => absurd c (by decide))
      replace h := Option.some.inj h
      subst h
      exact ⟨[.p (B true)], [], ⟨[], ⟨rfl, trivial⟩, trivial, rfl⟩, rfl, rfl, rfl⟩
  · replace h := cF h c
    refine And.intro (fun c => absurd c (by decide)) (fun _ => ?_)
    refine And.intro (fun c => absurd c (by decide)) (fun _ => ?_)
    refine And.intro (fun _ => ?_) (fun c => absurd c (by decide))
    refine And.intro (fun _ => ?_) (fun c => absurd c (by decide))
    refine And.intro (fun _ => ?_) (fun c => absurd c (by decide))
    refine And.intro (fun c => ?_) (fun c => ?_)
    · replace h := cT h c
      refine And.intro (fun _ => ?_) (fun c => absurd c (by decide))
      refine And.intro (fun _ => ?_) (fun c => absurd c (by decide))
      refine And.intro (fun _ => ?_) (fun c => absurd c (by decide))
      refine And.intro (fun c => absurd c (by decide)) (fun _ => ?_)
      replace h := Option.some.inj h
      subst h
      exact ⟨[.p (B (decide (a1 ≤ 90)))], [], ⟨[], ⟨rfl, trivial⟩, trivial, rfl⟩, rfl, rfl, rfl⟩
    · replace h := cF h c
      refine And.intro (fun c => absurd c (by decide)) (fun _ => ?_)
      refine And.intro (fun _ => ?_) (fun c => absurd c (by decide))
      refine And.intro (fun c => absurd c (by decide)) (fun _ => ?_)
      refine And.intro (fun c => absurd c (by decide)) (fun _ => ?_)
      replace h := Option.some.inj h
      subst h
      exact ⟨[.p (B false)], [], ⟨[], ⟨rfl, trivial⟩, trivial, rfl⟩, rfl, rfl, rfl⟩
def m_spec_l01Digit (n : Nat) (a2 : Int) : Option Bool :=
  bif (decide (a2 ≥ 48)) then (
    some (decide (a2 ≤ 57)))
  else (
    some false)
theorem c_spec_l01Digit (n : Nat) (a2 : Int) (r : Bool) (h : m_spec_l01Digit n a2 = some r) : FnP Try.prog 220 [.raw (.int .u8 a2)] [B r] := by
  unfold m_spec_l01Digit at h
  refine fn_introJ Try.func220 rfl rfl rfl ?_
  refine .inl ?_
  refine .inl ?_
  refine And.intro (fun c => ?_) (fun c => ?_)
  · replace h := cT h c
    refine And.intro (fun _ => ?_) (fun c => absurd c (by decide))
    refine And.intro (fun _ => ?_) (fun c => absurd c (by decide))
    replace h := Option.some.inj h
    subst h
    exact ⟨[.p (B (decide (a2 ≤ 57)))], [], ⟨[], ⟨rfl, trivial⟩, trivial, rfl⟩, rfl, rfl, rfl⟩
  · replace h := cF h c
    refine And.intro (fun c => absurd c (by decide)) (fun _ => ?_)
    refine And.intro (fun c => absurd c (by decide)) (fun _ => ?_)
    replace h := Option.some.inj h
    subst h
    exact ⟨[.p (B false)], [], ⟨[], ⟨rfl, trivial⟩, trivial, rfl⟩, rfl, rfl, rfl⟩
def m_spec_l01NameByte (n : Nat) (a3 : Int) : Option Bool :=
  (m_spec_l01Letter n a3).bind fun r1 =>
  bif r1 then (
    some true)
  else (
    (m_spec_l01Digit n a3).bind fun r2 =>
    bif r2 then (
      some true)
    else (
      some (a3 == 95)))
theorem c_spec_l01NameByte (n : Nat) (a3 : Int) (r : Bool) (h : m_spec_l01NameByte n a3 = some r) : FnP Try.prog 180 [.raw (.int .u8 a3)] [B r] := by
  unfold m_spec_l01NameByte at h
  refine fn_introJ Try.func180 rfl rfl rfl ?_
  refine .inl ?_
  refine .inl ?_
  obtain ⟨r1, hr1, h⟩ := bsm h
  refine callA (c_spec_l01Letter n a3 _ hr1) ?_
  refine And.intro (fun c => ?_) (fun c => ?_)
  · replace h := cF h c
    refine And.intro (fun _ => ?_) (fun c => absurd c (by decide))
    obtain ⟨r2, hr2, h⟩ := bsm h
    refine callA (c_spec_l01Digit n a3 _ hr2) ?_
    refine And.intro (fun c => absurd c (by decide)) (fun _ => ?_)
    refine And.intro (fun c => ?_) (fun c => ?_)
    · replace h := cF h c
      refine And.intro (fun _ => ?_) (fun c => absurd c (by decide))
      refine And.intro (fun c => absurd c (by decide)) (fun _ => ?_)
      replace h := Option.some.inj h
      subst h
      exact ⟨[.p (B (a3 == 95))], [], ⟨[], ⟨rfl, trivial⟩, trivial, rfl⟩, rfl, rfl, rfl⟩
    · replace h := cT h c
      refine And.intro (fun c => absurd c (by decide)) (fun _ => ?_)
      refine And.intro (fun _ => ?_) (fun c => absurd c (by decide))
      replace h := Option.some.inj h
      subst h
      exact ⟨[.p (B true)], [], ⟨[], ⟨rfl, trivial⟩, trivial, rfl⟩, rfl, rfl, rfl⟩
  · replace h := cT h c
    refine And.intro (fun c => absurd c (by decide)) (fun _ => ?_)
    refine And.intro (fun _ => ?_) (fun c => absurd c (by decide))
    refine And.intro (fun c => absurd c (by decide)) (fun _ => ?_)
    refine And.intro (fun c => absurd c (by decide)) (fun _ => ?_)
    refine And.intro (fun _ => ?_) (fun c => absurd c (by decide))
    replace h := Option.some.inj h
    subst h
    exact ⟨[.p (B true)], [], ⟨[], ⟨rfl, trivial⟩, trivial, rfl⟩, rfl, rfl, rfl⟩
def m_spec_l01Name_j2 : Option Bool :=
  some true
def m_spec_l01Name_l3 (n : Nat) (a4 : ByteArray) : Nat → Int → Option Bool
  | 0, _ => none
  | k3 + 1, v3 =>
    bif (decide (v3 < (a4.size : Int))) then (
      gp (0 ≤ v3 ∧ v3 < (a4.size : Int)) <|
      (m_spec_l01NameByte n (bt a4 v3)).bind fun r10 =>
      bif (!r10) then (
        some false)
      else (
        (m_spec_l01Name_l3 n a4 k3) (wr .i64 (v3 + 1))))
    else (
      m_spec_l01Name_j2)
def m_spec_l01Name (n : Nat) (a4 : ByteArray) : Option Bool :=
  bif (decide ((a4.size : Int) < 1)) then (
    some false)
  else (
    bif (decide ((a4.size : Int) > 24)) then (
      some false)
    else (
      gp (0 ≤ (0 : Int) ∧ (0 : Int) < (a4.size : Int)) <|
      (m_spec_l01Letter n (bt a4 0)).bind fun r4 =>
      bif (!r4) then (
        some false)
      else (
        m_spec_l01Name_l3 n a4 n 1)))
theorem c_spec_l01Name (n : Nat) (a4 : ByteArray) (r : Bool) (h : m_spec_l01Name n a4 = some r) : FnP Try.prog 100 [S a4] [B r] := by
  unfold m_spec_l01Name at h
  refine fn_introJ Try.func100 rfl rfl rfl ?_
  refine .inl ?_
  refine .inl ?_
  refine .inl ?_
  refine And.intro (fun c => ?_) (fun c => ?_)
  · replace h := cF h c
    refine And.intro (fun _ => ?_) (fun c => absurd c (by decide))
    refine And.intro (fun _ => ?_) (fun c => absurd c (by decide))
    refine And.intro (fun c => absurd c (by decide)) (fun _ => ?_)
    refine And.intro (fun c => ?_) (fun c => ?_)
    · replace h := cF h c
      refine And.intro (fun _ => ?_) (fun c => absurd c (by decide))
      obtain ⟨g8, h⟩ := gpT h
      refine And.intro g8 ?_
      refine And.intro (fun _ => ?_) (fun c => absurd c (by decide))
      obtain ⟨r4, hr4, h⟩ := bsm h
      refine callA (c_spec_l01Letter n (bt a4 0) _ hr4) ?_
      refine And.intro (fun _ => ?_) (fun c => absurd c (by decide))
      refine And.intro (fun c => absurd c (by decide)) (fun _ => ?_)
      refine And.intro (fun c => ?_) (fun c => ?_)
      · replace h := cT h c
        refine .inl ?_
        replace h := Option.some.inj h
        subst h
        exact ⟨[.p (B false)], [], ⟨[], ⟨rfl, trivial⟩, trivial, rfl⟩, rfl, rfl, rfl⟩
      · replace h := cF h c
        refine .inr ⟨Unit, fun x => ([], []), fun x => m_spec_l01Name_j2 = some r, ?_, ?_⟩
        · refine .inl ?_
          refine ⟨Int, fun x => ([(0, .p (S a4)), (3, .p (I x))], []), fun x k => m_spec_l01Name_l3 n a4 k x = some r, ⟨1, n, h, [], ⟨rfl, rfl, trivial⟩, trivial, rfl⟩, ?_⟩
          rintro v3 (_ | k3) h
          · exact ns h
          unfold m_spec_l01Name_l3 at h
          refine .inl ?_
          refine .inl ?_
          refine And.intro (fun c => ?_) (fun c => ?_)
          · replace h := cT h c
            refine .inl ?_
            refine .inl ?_
            obtain ⟨g7, h⟩ := gpT h
            refine And.intro g7 ?_
            obtain ⟨r10, hr10, h⟩ := bsm h
            refine callA (c_spec_l01NameByte n (bt a4 v3) _ hr10) ?_
            refine And.intro (fun c => ?_) (fun c => ?_)
            · replace h := cT h c
              refine .inl ?_
              replace h := Option.some.inj h
              subst h
              exact ⟨[.p (B false)], [], ⟨[], ⟨rfl, trivial⟩, trivial, rfl⟩, rfl, rfl, rfl⟩
            · replace h := cF h c
              exact ⟨(wr .i64 (v3 + 1)), k3, h, Nat.lt_succ_self _, [], ⟨rfl, rfl, trivial⟩, trivial, rfl⟩
          · replace h := cF h c
            exact ⟨(), h, [], trivial, trivial, rfl⟩
        · rintro _ h
          unfold m_spec_l01Name_j2 at h
          refine .inl ?_
          replace h := Option.some.inj h
          subst h
          exact ⟨[.p (B true)], [], ⟨[], ⟨rfl, trivial⟩, trivial, rfl⟩, rfl, rfl, rfl⟩
    · replace h := cT h c
      refine And.intro (fun c => absurd c (by decide)) (fun _ => ?_)
      refine And.intro (fun c => absurd c (by decide)) (fun _ => ?_)
      refine And.intro (fun c => absurd c (by decide)) (fun _ => ?_)
      refine And.intro (fun _ => ?_) (fun c => absurd c (by decide))
      refine And.intro (fun _ => ?_) (fun c => absurd c (by decide))
      refine .inl ?_
      replace h := Option.some.inj h
      subst h
      exact ⟨[.p (B false)], [], ⟨[], ⟨rfl, trivial⟩, trivial, rfl⟩, rfl, rfl, rfl⟩
  · replace h := cT h c
    refine And.intro (fun c => absurd c (by decide)) (fun _ => ?_)
    refine And.intro (fun c => absurd c (by decide)) (fun _ => ?_)
    refine And.intro (fun _ => ?_) (fun c => absurd c (by decide))
    refine And.intro (fun c => absurd c (by decide)) (fun _ => ?_)
    refine And.intro (fun c => absurd c (by decide)) (fun _ => ?_)
    refine And.intro (fun c => absurd c (by decide)) (fun _ => ?_)
    refine And.intro (fun c => absurd c (by decide)) (fun _ => ?_)
    refine And.intro (fun _ => ?_) (fun c => absurd c (by decide))
    refine And.intro (fun _ => ?_) (fun c => absurd c (by decide))
    refine .inl ?_
    replace h := Option.some.inj h
    subst h
    exact ⟨[.p (B false)], [], ⟨[], ⟨rfl, trivial⟩, trivial, rfl⟩, rfl, rfl, rfl⟩
def m_spec_l11Var (n : Nat) (a5 : Tree) : Option Bool :=
  bif a5.lf then (
    some (decide (a5.nm = ⟨#[86, 97, 114]⟩)))
  else (
    some false)
theorem c_spec_l11Var (n : Nat) (a5 : Tree) (r : Bool) (h : m_spec_l11Var n a5 = some r) : FnP Try.prog 151 [a5.enc] [B r] := by
  unfold m_spec_l11Var at h
  refine fn_introJ Try.func151 rfl rfl rfl ?_
  refine .inl ?_
  refine .inl ?_
  refine And.intro (fun c => ?_) (fun c => ?_)
  · replace h := cT h c
    refine And.intro (fun _ => ?_) (fun c => absurd c (by decide))
    refine And.intro (fun _ => ?_) (fun c => absurd c (by decide))
    refine And.intro (fun _ => ?_) (fun c => absurd c (by decide))
    replace h := Option.some.inj h
    subst h
    exact ⟨[.p (B (decide (a5.nm = ⟨#[86, 97, 114]⟩)))], [], ⟨[], ⟨rfl, trivial⟩, trivial, rfl⟩, rfl, rfl, rfl⟩
  · replace h := cF h c
    refine And.intro (fun c => absurd c (by decide)) (fun _ => ?_)
    refine And.intro (fun c => absurd c (by decide)) (fun _ => ?_)
    refine And.intro (fun c => absurd c (by decide)) (fun _ => ?_)
    replace h := Option.some.inj h
    subst h
    exact ⟨[.p (B false)], [], ⟨[], ⟨rfl, trivial⟩, trivial, rfl⟩, rfl, rfl, rfl⟩
def m_spec_l03At_j2 : Option Int :=
  some (-1)
def m_spec_l03At_l3 (a6 : List ByteArray) (a7 : ByteArray) : Nat → Int → Option Int
  | 0, _ => none
  | k3 + 1, v7 =>
    bif (decide (v7 < ((a6.map S).length : Int))) then (
      (ix a6 v7).bind fun x6 =>
      bif (decide (x6 = a7)) then (
        some v7)
      else (
        (m_spec_l03At_l3 a6 a7 k3) (wr .i64 (v7 + 1))))
    else (
      m_spec_l03At_j2)
def m_spec_l03At (n : Nat) (a6 : List ByteArray) (a7 : ByteArray) : Option Int :=
  m_spec_l03At_l3 a6 a7 n 0
theorem c_spec_l03At (n : Nat) (a6 : List ByteArray) (a7 : ByteArray) (r : Int) (h : m_spec_l03At n a6 a7 = some r) : FnP Try.prog 205 [.lst (a6.map S), S a7] [I r] := by
  unfold m_spec_l03At at h
  refine fn_introJ Try.func205 rfl rfl rfl ?_
  refine .inl ?_
  refine .inr ⟨Unit, fun x => ([], []), fun x => m_spec_l03At_j2 = some r, ?_, ?_⟩
  · refine .inl ?_
    refine ⟨Int, fun x => ([(0, .p (.lst (a6.map S))), (1, .p (S a7)), (5, .p (I x))], []), fun x k => m_spec_l03At_l3 a6 a7 k x = some r, ⟨0, n, h, [], ⟨rfl, rfl, rfl, trivial⟩, trivial, rfl⟩, ?_⟩
    rintro v7 (_ | k3) h
    · exact ns h
    unfold m_spec_l03At_l3 at h
    refine .inl ?_
    refine .inl ?_
    refine And.intro (fun c => ?_) (fun c => ?_)
    · replace h := cT h c
      refine .inl ?_
      refine .inl ?_
      obtain ⟨x6, hx6, h⟩ := bsm h
      refine And.intro (ix0 hx6) (Exists.intro _ (And.intro (gm (ixg hx6)) (And.intro rfl ?_)))
      refine And.intro (fun c => ?_) (fun c => ?_)
      · replace h := cT h c
        refine .inl ?_
        replace h := Option.some.inj h
        subst h
        exact ⟨[.p (I v7)], [], ⟨[], ⟨rfl, trivial⟩, trivial, rfl⟩, rfl, rfl, rfl⟩
      · replace h := cF h c
        exact ⟨(wr .i64 (v7 + 1)), k3, h, Nat.lt_succ_self _, [], ⟨rfl, rfl, rfl, trivial⟩, trivial, rfl⟩
    · replace h := cF h c
      exact ⟨(), h, [], trivial, trivial, rfl⟩
  · rintro _ h
    unfold m_spec_l03At_j2 at h
    refine .inl ?_
    replace h := Option.some.inj h
    subst h
    exact ⟨[.p (I (-1))], [], ⟨[], ⟨rfl, trivial⟩, trivial, rfl⟩, rfl, rfl, rfl⟩
def m_spec_l11Vars_j1 (n : Nat) (a8 : Tree) (v9 : List ByteArray) : Option (List ByteArray × Bool) :=
  (m_spec_l01Name n a8.tx).bind fun r13 =>
  some (v9, r13)
def m_spec_l11Vars_j3 (v16 : Bool) (v17 : List ByteArray) : Option (List ByteArray × Bool) :=
  some (v17, v16)
def m_spec_l11Vars_l4 (self_spec_l11Vars : Tree → List ByteArray → Option (List ByteArray × Bool)) (a8 : Tree) : Nat → Bool → Int → List ByteArray → Option (List ByteArray × Bool)
  | 0, _, _, _ => none
  | k4 + 1, v18, v19, v20 =>
    bif (decide (v19 < ((encM a8.ks).length : Int))) then (
      bif v18 then (
        (ix a8.ks v19).bind fun x12 =>
        (self_spec_l11Vars x12 v20).bind fun r20 =>
        (m_spec_l11Vars_l4 self_spec_l11Vars a8 k4) r20.2 (wr .i64 (v19 + 1)) r20.1)
      else (
        m_spec_l11Vars_j3 v18 v20))
    else (
      m_spec_l11Vars_j3 v18 v20)
def m_spec_l11Vars : Nat → Tree → List ByteArray → Option (List ByteArray × Bool)
  | 0, _, _ => none
  | n + 1, a8, a9 =>
    (m_spec_l11Var n a8).bind fun r11 =>
    bif r11 then (
      (m_spec_l03At n a9 a8.tx).bind fun r14 =>
      bif (decide (r14 < 0)) then (
        gp (a9.length + ([a8.tx] : List ByteArray).length ≤ 68719476736) <|
        m_spec_l11Vars_j1 n a8 (a9 ++ [a8.tx]))
      else (
        m_spec_l11Vars_j1 n a8 a9))
    else (
      m_spec_l11Vars_l4 (m_spec_l11Vars n) a8 n true 0 a9)
theorem c_spec_l11Vars : ∀ (n : Nat) (a8 : Tree) (a9 : List ByteArray) (r : List ByteArray × Bool) (h : m_spec_l11Vars n a8 a9 = some r), Sy.Fn Try.prog 140 [.p (a8.enc), .row 0 1 0 a9.length] [.row 9 1 (a9.map S)] (fun rs τ' => rs = [.row 0 1 0 r.1.length, .p (B r.2)] ∧ τ' = [.row 9 1 (r.1.map S)])
  | 0, _, _, r, h => ns h
  | n + 1, a8, a9, r, h => by
    have ih_spec_l11Vars := c_spec_l11Vars n
    unfold m_spec_l11Vars at h
    refine fn_introJ Try.func140 rfl rfl rfl ?_
    refine .inl ?_
    refine .inl ?_
    refine .inl ?_
    obtain ⟨r11, hr11, h⟩ := bsm h
    refine callA (c_spec_l11Var n a8 _ hr11) ?_
    refine And.intro (fun c => ?_) (fun c => ?_)
    · replace h := cT h c
      refine .inr ⟨List ByteArray, fun x => ([(1, .row 0 1 0 x.length), (2, .ptr 1 0)], [.row 9 1 (x.map S), .box 31 [.p (S a8.nm), .p (S a8.tx), .p (B a8.lf), .p (.lst (encM a8.ks))]]), fun x => m_spec_l11Vars_j1 n a8 x = some r, ?_, ?_⟩
      · refine .inl ?_
        obtain ⟨r14, hr14, h⟩ := bsm h
        refine callV (c_spec_l03At n a9 a8.tx _ hr14) rfl (fun K hk => Exists.intro _ (And.intro (rowN rfl (show a9.length = (a9.map S).length by simp)) hk)) ?_
        refine And.intro (fun c => ?_) (fun c => ?_)
        · replace h := cT h c
          refine And.intro (show fits _ _ from ⟨⟨rfl, rfl⟩, trivial⟩) ?_
          obtain ⟨g2, h⟩ := gpT h
          refine Exists.intro ([S a8.tx]) (And.intro (rowN rfl rfl) ?_)
          refine Exists.intro (a9.map S) (And.intro (rowX (rowN rfl (show a9.length = (a9.map S).length by simp)) (show fits _ _ from ⟨⟨rfl, rfl⟩, trivial⟩) (appfitJ (by first | simpa using g2 | (simp at g2 ⊢; omega)) rfl)) ?_)
          exact ⟨(a9 ++ [a8.tx]), h, [], ⟨(congrArg (AV.row 0 1 0) (show (a9 ++ [a8.tx]).length = (a9.length + ([S a8.tx] : List PV).length) by simp)), rfl, trivial⟩, ⟨(congrArg (Bk.row 9 1) (show (a9 ++ [a8.tx]).map S = (a9.map S) ++ [S a8.tx] by simp)), ⟨rfl, rfl, rfl, rfl, rfl, trivial⟩, trivial⟩, rfl⟩
        · replace h := cF h c
          exact ⟨a9, h, [], ⟨rfl, rfl, trivial⟩, ⟨rfl, ⟨rfl, rfl, rfl, rfl, rfl, trivial⟩, trivial⟩, rfl⟩
      · rintro v9 h
        unfold m_spec_l11Vars_j1 at h
        refine .inl ?_
        obtain ⟨r13, hr13, h⟩ := bsm h
        refine callA (c_spec_l01Name n a8.tx _ hr13) ?_
        refine .inr ?_
        replace h := Option.some.inj h
        subst h
        exact ⟨[.row 0 1 0 v9.length, .p (B r13)], [.row 9 1 (v9.map S)], ⟨[], ⟨rfl, rfl, trivial⟩, ⟨rfl, trivial⟩, rfl⟩, rfl, rfl, rfl⟩
    · replace h := cF h c
      refine .inl ?_
      refine .inr ⟨Bool × List ByteArray, fun x => ([(1, .row 0 1 0 x.2.length), (6, .p (B x.1))], [.row 9 1 (x.2.map S)]), fun x => m_spec_l11Vars_j3 x.1 x.2 = some r, ?_, ?_⟩
      · refine .inl ?_
        refine ⟨Bool × Int × List ByteArray, fun x => ([(1, .row 0 1 0 x.2.2.length), (2, .ptr 1 0), (6, .p (B x.1)), (7, .p (I x.2.1))], [.row 9 1 (x.2.2.map S), .box 31 [.p (S a8.nm), .p (S a8.tx), .p (B a8.lf), .p (.lst (encM a8.ks))]]), fun x k => m_spec_l11Vars_l4 (m_spec_l11Vars n) a8 k x.1 x.2.1 x.2.2 = some r, ⟨(true, 0, a9), n, h, [], ⟨rfl, rfl, rfl, rfl, trivial⟩, ⟨rfl, ⟨rfl, rfl, rfl, rfl, rfl, trivial⟩, trivial⟩, rfl⟩, ?_⟩
        rintro ⟨v18, v19, v20⟩ (_ | k4) h
        · exact ns h
        unfold m_spec_l11Vars_l4 at h
        refine .inl ?_
        refine .inl ?_
        refine And.intro (fun c => ?_) (fun c => ?_)
        · replace h := cT h c
          refine And.intro (fun _ => ?_) (fun c => absurd c (by decide))
          refine And.intro (fun c => ?_) (fun c => ?_)
          · replace h := cT h c
            refine .inl ?_
            obtain ⟨x12, hx12, h⟩ := bsm h
            refine And.intro (ix0 hx12) (Exists.intro _ (And.intro (encM_get (ixg hx12)) (And.intro rfl ?_)))
            obtain ⟨r20, hr20, h⟩ := bsm h
            refine callW (args' := [.p (x12.enc), .row 0 1 0 v20.length]) (τ0 := [.row 9 1 (v20.map S)]) [0] [] (ih_spec_l11Vars x12 v20 _ hr20) (fun K hk => Or.inr hk) rfl ⟨rfl, rfl, trivial⟩ ⟨rfl, trivial⟩ rfl ?_
            rintro rs τ' hl' ⟨rfl, rfl⟩
            exact ⟨(r20.2, (wr .i64 (v19 + 1)), r20.1), k4, h, Nat.lt_succ_self _, [], ⟨rfl, rfl, rfl, rfl, trivial⟩, ⟨rfl, ⟨rfl, rfl, rfl, rfl, rfl, trivial⟩, trivial⟩, rfl⟩
          · replace h := cF h c
            exact ⟨(v18, v20), h, [], ⟨rfl, rfl, trivial⟩, ⟨rfl, trivial⟩, rfl⟩
        · replace h := cF h c
          refine And.intro (fun c => absurd c (by decide)) (fun _ => ?_)
          refine And.intro (fun c => absurd c (by decide)) (fun _ => ?_)
          exact ⟨(v18, v20), h, [], ⟨rfl, rfl, trivial⟩, ⟨rfl, trivial⟩, rfl⟩
      · rintro ⟨v16, v17⟩ h
        unfold m_spec_l11Vars_j3 at h
        refine .inl ?_
        refine .inr ?_
        replace h := Option.some.inj h
        subst h
        exact ⟨[.row 0 1 0 v17.length, .p (B v16)], [.row 9 1 (v17.map S)], ⟨[], ⟨rfl, rfl, trivial⟩, ⟨rfl, trivial⟩, rfl⟩, rfl, rfl, rfl⟩
def m_spec_l11Pattern (n : Nat) (a10 : Tree) : Option Bool :=
  (m_spec_TreeOK n a10).bind fun r21 =>
  bif (!r21) then (
    some false)
  else (
    (m_spec_l11Vars n a10 []).bind fun r22 =>
    some r22.2)
theorem c_spec_l11Pattern (n : Nat) (a10 : Tree) (r : Bool) (h : m_spec_l11Pattern n a10 = some r) : FnP Try.prog 61 [a10.enc] [B r] := by
  unfold m_spec_l11Pattern at h
  refine fn_introJ Try.func61 rfl rfl rfl ?_
  refine .inl ?_
  refine .inl ?_
  refine .inl ?_
  obtain ⟨r21, hr21, h⟩ := bsm h
  refine callA (c_spec_TreeOK n a10 _ hr21) ?_
  refine And.intro (fun c => ?_) (fun c => ?_)
  · replace h := cT h c
    refine .inl ?_
    replace h := Option.some.inj h
    subst h
    exact ⟨[.p (B false)], [], ⟨[], ⟨rfl, trivial⟩, trivial, rfl⟩, rfl, rfl, rfl⟩
  · replace h := cF h c
    refine .inl ?_
    refine And.intro (show fits _ _ from trivial) ?_
    obtain ⟨r22, hr22, h⟩ := bsm h
    refine callW (args' := [.p (a10.enc), .row 0 1 0 [].length]) (τ0 := [.row 9 1 ([].map S)]) [1] [] (c_spec_l11Vars n a10 [] _ hr22) (fun K hk => Or.inr hk) rfl ⟨rfl, (congrArg (AV.row 0 1 0) (show [].length = 0 by simp)), trivial⟩ ⟨(congrArg (Bk.row 9 1) (show [].map S = [] by simp)), trivial⟩ rfl ?_
    rintro rs τ' hl' ⟨rfl, rfl⟩
    refine .inl ?_
    replace h := Option.some.inj h
    subst h
    exact ⟨[.p (B r22.2)], [], ⟨[], ⟨rfl, trivial⟩, trivial, rfl⟩, rfl, rfl, rfl⟩
def m_spec_l11Find_j2 : Option Int :=
  some (-1)
def m_spec_l11Find_l3 (a11 : List gBind) (a12 : ByteArray) : Nat → Int → Option Int
  | 0, _ => none
  | k3 + 1, v26 =>
    bif (decide (v26 < ((a11.map gBind.enc).length : Int))) then (
      (ix a11 v26).bind fun x18 =>
      bif (decide (x18.name_ = a12)) then (
        some v26)
      else (
        (m_spec_l11Find_l3 a11 a12 k3) (wr .i64 (v26 + 1))))
    else (
      m_spec_l11Find_j2)
def m_spec_l11Find (n : Nat) (a11 : List gBind) (a12 : ByteArray) : Option Int :=
  m_spec_l11Find_l3 a11 a12 n 0
theorem c_spec_l11Find (n : Nat) (a11 : List gBind) (a12 : ByteArray) (r : Int) (h : m_spec_l11Find n a11 a12 = some r) : FnP Try.prog 132 [.lst (a11.map gBind.enc), S a12] [I r] := by
  unfold m_spec_l11Find at h
  refine fn_introJ Try.func132 rfl rfl rfl ?_
  refine .inl ?_
  refine .inr ⟨Unit, fun x => ([], []), fun x => m_spec_l11Find_j2 = some r, ?_, ?_⟩
  · refine .inl ?_
    refine ⟨Int, fun x => ([(0, .p (.lst (a11.map gBind.enc))), (1, .p (S a12)), (5, .p (I x))], []), fun x k => m_spec_l11Find_l3 a11 a12 k x = some r, ⟨0, n, h, [], ⟨rfl, rfl, rfl, trivial⟩, trivial, rfl⟩, ?_⟩
    rintro v26 (_ | k3) h
    · exact ns h
    unfold m_spec_l11Find_l3 at h
    refine .inl ?_
    refine .inl ?_
    refine And.intro (fun c => ?_) (fun c => ?_)
    · replace h := cT h c
      refine .inl ?_
      refine .inl ?_
      obtain ⟨x18, hx18, h⟩ := bsm h
      refine And.intro (ix0 hx18) (Exists.intro _ (And.intro (gm (ixg hx18)) (And.intro rfl ?_)))
      refine And.intro (fun c => ?_) (fun c => ?_)
      · replace h := cT h c
        refine .inl ?_
        replace h := Option.some.inj h
        subst h
        exact ⟨[.p (I v26)], [], ⟨[], ⟨rfl, trivial⟩, trivial, rfl⟩, rfl, rfl, rfl⟩
      · replace h := cF h c
        exact ⟨(wr .i64 (v26 + 1)), k3, h, Nat.lt_succ_self _, [], ⟨rfl, rfl, rfl, trivial⟩, trivial, rfl⟩
    · replace h := cF h c
      exact ⟨(), h, [], trivial, trivial, rfl⟩
  · rintro _ h
    unfold m_spec_l11Find_j2 at h
    refine .inl ?_
    replace h := Option.some.inj h
    subst h
    exact ⟨[.p (I (-1))], [], ⟨[], ⟨rfl, trivial⟩, trivial, rfl⟩, rfl, rfl, rfl⟩
def m_spec_l01Same_j2 : Option Bool :=
  some true
def m_spec_l01Same_l3 (self_spec_l01Same : Tree → Tree → Option Bool) (a13 : Tree) (a14 : Tree) : Nat → Int → Option Bool
  | 0, _ => none
  | k3 + 1, v30 =>
    bif (decide (v30 < ((encM a13.ks).length : Int))) then (
      (ix a13.ks v30).bind fun x41 =>
      (ix a14.ks v30).bind fun x42 =>
      (self_spec_l01Same x41 x42).bind fun r34 =>
      bif (!r34) then (
        some false)
      else (
        (m_spec_l01Same_l3 self_spec_l01Same a13 a14 k3) (wr .i64 (v30 + 1))))
    else (
      m_spec_l01Same_j2)
def m_spec_l01Same : Nat → Tree → Tree → Option Bool
  | 0, _, _ => none
  | n + 1, a13, a14 =>
    bif (!decide (a13.nm = a14.nm)) then (
      some false)
    else (
      bif (!decide (a13.tx = a14.tx)) then (
        some false)
      else (
        bif (xor true (a13.lf == a14.lf)) then (
          some false)
        else (
          bif (((encM a13.ks).length : Int) != ((encM a14.ks).length : Int)) then (
            some false)
          else (
            m_spec_l01Same_l3 (m_spec_l01Same n) a13 a14 n 0))))
theorem c_spec_l01Same : ∀ (n : Nat) (a13 : Tree) (a14 : Tree) (r : Bool) (h : m_spec_l01Same n a13 a14 = some r), FnP Try.prog 152 [a13.enc, a14.enc] [B r]
  | 0, _, _, r, h => ns h
  | n + 1, a13, a14, r, h => by
    have ih_spec_l01Same := c_spec_l01Same n
    unfold m_spec_l01Same at h
    refine fn_introJ Try.func152 rfl rfl rfl ?_
    refine .inl ?_
    refine .inl ?_
    refine .inl ?_
    refine And.intro (fun c => ?_) (fun c => ?_)
    · replace h := cF h c
      refine And.intro (fun _ => ?_) (fun c => absurd c (by decide))
      refine And.intro (fun _ => ?_) (fun c => absurd c (by decide))
      refine And.intro (fun _ => ?_) (fun c => absurd c (by decide))
      refine And.intro (fun _ => ?_) (fun c => absurd c (by decide))
      refine And.intro (fun c => absurd c (by decide)) (fun _ => ?_)
      refine And.intro (fun c => ?_) (fun c => ?_)
      · replace h := cF h c
        refine And.intro (fun _ => ?_) (fun c => absurd c (by decide))
        refine And.intro (fun _ => ?_) (fun c => absurd c (by decide))
        refine And.intro (fun _ => ?_) (fun c => absurd c (by decide))
        refine And.intro (fun _ => ?_) (fun c => absurd c (by decide))
        refine And.intro (fun c => absurd c (by decide)) (fun _ => ?_)
        refine And.intro (fun c => ?_) (fun c => ?_)
        · replace h := cF h c
          refine And.intro (fun _ => ?_) (fun c => absurd c (by decide))
          refine And.intro (fun _ => ?_) (fun c => absurd c (by decide))
          refine And.intro (fun _ => ?_) (fun c => absurd c (by decide))
          refine And.intro (fun _ => ?_) (fun c => absurd c (by decide))
          refine And.intro (fun _ => ?_) (fun c => absurd c (by decide))
          refine And.intro (fun _ => ?_) (fun c => absurd c (by decide))
          refine And.intro (fun c => absurd c (by decide)) (fun _ => ?_)
          refine And.intro (fun c => ?_) (fun c => ?_)
          · replace h := cT h c
            refine .inl ?_
            replace h := Option.some.inj h
            subst h
            exact ⟨[.p (B false)], [], ⟨[], ⟨rfl, trivial⟩, trivial, rfl⟩, rfl, rfl, rfl⟩
          · replace h := cF h c
            refine .inr ⟨Unit, fun x => ([], []), fun x => m_spec_l01Same_j2 = some r, ?_, ?_⟩
            · refine .inl ?_
              refine ⟨Int, fun x => ([(2, .ptr 0 0), (3, .ptr 1 0), (5, .p (I x))], [.box 31 [.p (S a13.nm), .p (S a13.tx), .p (B a13.lf), .p (.lst (encM a13.ks))], .box 31 [.p (S a14.nm), .p (S a14.tx), .p (B a14.lf), .p (.lst (encM a14.ks))]]), fun x k => m_spec_l01Same_l3 (m_spec_l01Same n) a13 a14 k x = some r, ⟨0, n, h, [], ⟨rfl, rfl, rfl, trivial⟩, ⟨⟨rfl, rfl, rfl, rfl, rfl, trivial⟩, ⟨rfl, rfl, rfl, rfl, rfl, trivial⟩, trivial⟩, rfl⟩, ?_⟩
              rintro v30 (_ | k3) h
              · exact ns h
              unfold m_spec_l01Same_l3 at h
              refine .inl ?_
              refine .inl ?_
              refine And.intro (fun c => ?_) (fun c => ?_)
              · replace h := cT h c
                refine .inl ?_
                refine .inl ?_
                refine ⟨[0, 1, 2, 3, 4, 5, 6, 7, 8, 9, 10, 11], [], by decide +kernel, ?_⟩
                obtain ⟨x41, hx41, h⟩ := bsm h
                refine And.intro (ix0 hx41) (Exists.intro _ (And.intro (encM_get (ixg hx41)) (And.intro rfl ?_)))
                obtain ⟨x42, hx42, h⟩ := bsm h
                refine And.intro (ix0 hx42) (Exists.intro _ (And.intro (encM_get (ixg hx42)) (And.intro rfl ?_)))
                obtain ⟨r34, hr34, h⟩ := bsm h
                refine callA (ih_spec_l01Same x41 x42 _ hr34) ?_
                refine And.intro (fun c => ?_) (fun c => ?_)
                · replace h := cT h c
                  refine .inl ?_
                  replace h := Option.some.inj h
                  subst h
                  exact ⟨[.p (B false)], [], ⟨[], ⟨rfl, trivial⟩, trivial, rfl⟩, rfl, rfl, rfl⟩
                · replace h := cF h c
                  exact ⟨(wr .i64 (v30 + 1)), k3, h, Nat.lt_succ_self _, [], ⟨rfl, rfl, rfl, trivial⟩, ⟨⟨rfl, rfl, rfl, rfl, rfl, trivial⟩, ⟨rfl, rfl, rfl, rfl, rfl, trivial⟩, trivial⟩, rfl⟩
              · replace h := cF h c
                exact ⟨(), h, [], trivial, trivial, rfl⟩
            · rintro _ h
              unfold m_spec_l01Same_j2 at h
              refine .inl ?_
              replace h := Option.some.inj h
              subst h
              exact ⟨[.p (B true)], [], ⟨[], ⟨rfl, trivial⟩, trivial, rfl⟩, rfl, rfl, rfl⟩
        · replace h := cT h c
          refine And.intro (fun c => absurd c (by decide)) (fun _ => ?_)
          refine And.intro (fun c => absurd c (by decide)) (fun _ => ?_)
          refine And.intro (fun c => absurd c (by decide)) (fun _ => ?_)
          refine And.intro (fun c => absurd c (by decide)) (fun _ => ?_)
          refine And.intro (fun c => absurd c (by decide)) (fun _ => ?_)
          refine And.intro (fun c => absurd c (by decide)) (fun _ => ?_)
          refine And.intro (fun _ => ?_) (fun c => absurd c (by decide))
          refine And.intro (fun _ => ?_) (fun c => absurd c (by decide))
          refine .inl ?_
          replace h := Option.some.inj h
          subst h
          exact ⟨[.p (B false)], [], ⟨[], ⟨rfl, trivial⟩, trivial, rfl⟩, rfl, rfl, rfl⟩
      · replace h := cT h c
        refine And.intro (fun c => absurd c (by decide)) (fun _ => ?_)
        refine And.intro (fun c => absurd c (by decide)) (fun _ => ?_)
        refine And.intro (fun c => absurd c (by decide)) (fun _ => ?_)
        refine And.intro (fun c => absurd c (by decide)) (fun _ => ?_)
        refine And.intro (fun _ => ?_) (fun c => absurd c (by decide))
        refine And.intro (fun c => absurd c (by decide)) (fun _ => ?_)
        refine And.intro (fun c => absurd c (by decide)) (fun _ => ?_)
        refine And.intro (fun c => absurd c (by decide)) (fun _ => ?_)
        refine And.intro (fun c => absurd c (by decide)) (fun _ => ?_)
        refine And.intro (fun c => absurd c (by decide)) (fun _ => ?_)
        refine And.intro (fun c => absurd c (by decide)) (fun _ => ?_)
        refine And.intro (fun c => absurd c (by decide)) (fun _ => ?_)
        refine And.intro (fun _ => ?_) (fun c => absurd c (by decide))
        refine And.intro (fun _ => ?_) (fun c => absurd c (by decide))
        refine .inl ?_
        replace h := Option.some.inj h
        subst h
        exact ⟨[.p (B false)], [], ⟨[], ⟨rfl, trivial⟩, trivial, rfl⟩, rfl, rfl, rfl⟩
    · replace h := cT h c
      refine And.intro (fun c => absurd c (by decide)) (fun _ => ?_)
      refine And.intro (fun c => absurd c (by decide)) (fun _ => ?_)
      refine And.intro (fun c => absurd c (by decide)) (fun _ => ?_)
      refine And.intro (fun c => absurd c (by decide)) (fun _ => ?_)
      refine And.intro (fun _ => ?_) (fun c => absurd c (by decide))
      refine And.intro (fun c => absurd c (by decide)) (fun _ => ?_)
      refine And.intro (fun c => absurd c (by decide)) (fun _ => ?_)
      refine And.intro (fun c => absurd c (by decide)) (fun _ => ?_)
      refine And.intro (fun c => absurd c (by decide)) (fun _ => ?_)
      refine And.intro (fun c => absurd c (by decide)) (fun _ => ?_)
      refine And.intro (fun _ => ?_) (fun c => absurd c (by decide))
      refine And.intro (fun c => absurd c (by decide)) (fun _ => ?_)
      refine And.intro (fun c => absurd c (by decide)) (fun _ => ?_)
      refine And.intro (fun c => absurd c (by decide)) (fun _ => ?_)
      refine And.intro (fun c => absurd c (by decide)) (fun _ => ?_)
      refine And.intro (fun c => absurd c (by decide)) (fun _ => ?_)
      refine And.intro (fun c => absurd c (by decide)) (fun _ => ?_)
      refine And.intro (fun c => absurd c (by decide)) (fun _ => ?_)
      refine And.intro (fun _ => ?_) (fun c => absurd c (by decide))
      refine And.intro (fun _ => ?_) (fun c => absurd c (by decide))
      refine .inl ?_
      replace h := Option.some.inj h
      subst h
      exact ⟨[.p (B false)], [], ⟨[], ⟨rfl, trivial⟩, trivial, rfl⟩, rfl, rfl, rfl⟩
def m_spec_l11Match_j4 (v40 : List gBind) (v41 : Bool) : Option (List gBind × Bool) :=
  some (v40, v41)
def m_spec_l11Match_l5 (self_spec_l11Match : Tree → Tree → List gBind → Option (List gBind × Bool)) (a15 : Tree) (a16 : Tree) : Nat → List gBind → Bool → Int → Option (List gBind × Bool)
  | 0, _, _, _ => none
  | k5 + 1, v42, v43, v44 =>
    bif (decide (v44 < ((encM a15.ks).length : Int))) then (
      bif v43 then (
        (ix a15.ks v44).bind fun x67 =>
        (ix a16.ks v44).bind fun x68 =>
        (self_spec_l11Match x67 x68 v42).bind fun r50 =>
        (m_spec_l11Match_l5 self_spec_l11Match a15 a16 k5) r50.1 r50.2 (wr .i64 (v44 + 1)))
      else (
        m_spec_l11Match_j4 v42 v43))
    else (
      m_spec_l11Match_j4 v42 v43)
def m_spec_l11Match_j2 (self_spec_l11Match : Tree → Tree → List gBind → Option (List gBind × Bool)) (n : Nat) (a15 : Tree) (a16 : Tree) (a17 : List gBind) (v33 : Bool) : Option (List gBind × Bool) :=
  bif v33 then (
    some (a17, false))
  else (
    m_spec_l11Match_l5 self_spec_l11Match a15 a16 n a17 true 0)
def m_spec_l11Match : Nat → Tree → Tree → List gBind → Option (List gBind × Bool)
  | 0, _, _, _ => none
  | n + 1, a15, a16, a17 =>
    (m_spec_l11Var n a15).bind fun r35 =>
    bif r35 then (
      (m_spec_l11Find n a17 a15.tx).bind fun r36 =>
      bif (decide (r36 ≥ 0)) then (
        (ix a17 r36).bind fun x44 =>
        (m_spec_l01Same n x44.tree_ a16).bind fun r38 =>
        some (a17, r38))
      else (
        gp (([] : List gBind).length + a17.length ≤ 68719476736) <|
        gp (a17.length + ([(gBind.mk a15.tx a16)] : List gBind).length ≤ 68719476736) <|
        some ((a17 ++ [(gBind.mk a15.tx a16)]), true)))
    else (
      bif (!decide (a15.nm = a16.nm)) then (
        m_spec_l11Match_j2 (m_spec_l11Match n) n a15 a16 a17 true)
      else (
        bif (xor true (a15.lf == a16.lf)) then (
          m_spec_l11Match_j2 (m_spec_l11Match n) n a15 a16 a17 true)
        else (
          bif (!decide (a15.tx = a16.tx)) then (
            m_spec_l11Match_j2 (m_spec_l11Match n) n a15 a16 a17 true)
          else (
            m_spec_l11Match_j2 (m_spec_l11Match n) n a15 a16 a17 (((encM a15.ks).length : Int) != ((encM a16.ks).length : Int))))))
theorem c_spec_l11Match : ∀ (n : Nat) (a15 : Tree) (a16 : Tree) (a17 : List gBind) (r : List gBind × Bool) (h : m_spec_l11Match n a15 a16 a17 = some r), FnP Try.prog 63 [a15.enc, a16.enc, .lst (a17.map gBind.enc)] [.lst (r.1.map gBind.enc), B r.2]
  | 0, _, _, _, r, h => ns h
  | n + 1, a15, a16, a17, r, h => by
    have ih_spec_l11Match := c_spec_l11Match n
    unfold m_spec_l11Match at h
    refine fn_introJ Try.func63 rfl rfl rfl ?_
    refine .inl ?_
    refine .inl ?_
    refine .inl ?_
    obtain ⟨r35, hr35, h⟩ := bsm h
    refine callA (c_spec_l11Var n a15 _ hr35) ?_
    refine And.intro (fun c => ?_) (fun c => ?_)
    · replace h := cT h c
      refine .inl ?_
      obtain ⟨r36, hr36, h⟩ := bsm h
      refine callA (c_spec_l11Find n a17 a15.tx _ hr36) ?_
      refine .inl ?_
      refine .inl ?_
      refine And.intro (fun c => ?_) (fun c => ?_)
      · replace h := cT h c
        refine .inl ?_
        refine ⟨[0, 1, 2, 3, 4, 5, 6, 7, 8, 9], [], by decide +kernel, ?_⟩
        obtain ⟨x44, hx44, h⟩ := bsm h
        refine And.intro (ix0 hx44) (Exists.intro _ (And.intro (gm (ixg hx44)) (And.intro rfl ?_)))
        obtain ⟨r38, hr38, h⟩ := bsm h
        refine callA (c_spec_l01Same n x44.tree_ a16 _ hr38) ?_
        replace h := Option.some.inj h
        subst h
        exact ⟨[.p (.lst (a17.map gBind.enc)), .p (B r38)], [], ⟨[], ⟨rfl, rfl, trivial⟩, trivial, rfl⟩, rfl, rfl, rfl⟩
      · replace h := cF h c
        refine .inl ?_
        refine ⟨[1, 3, 4, 5, 6, 5000, 0, 5000, 2, 7, 8, 9, 10, 7, 2, 8, 9, 10, 6000, 6000, 6000, 6000, 6000, 6000, 7, 0, 2, 8, 9, 10], [2, 3], by decide +kernel, ?_⟩
        obtain ⟨g8, h⟩ := gpT h
        obtain ⟨g7, h⟩ := gpT h
        refine And.intro ?_ ?_
        · refine And.intro (show fits _ _ from trivial) ?_
          refine And.intro ?_ ?_
          · skip
            refine Exists.intro ([].map gBind.enc) (And.intro (rowX (rowN (show [] = [].map gBind.enc by simp) (show 0 = ([].map gBind.enc).length by simp)) (fits_map (e := gBind.enc) (fun _ => ⟨rfl, rfl⟩) _) (appfitJ (by first | simpa using g8 | (simp at g8 ⊢; omega)) rfl)) ?_)
            refine And.intro (show fits _ _ from ⟨⟨rfl, rfl⟩, trivial⟩) ?_
            refine Exists.intro ([(gBind.mk a15.tx a16).enc]) (And.intro (rowN rfl rfl) ?_)
            refine Exists.intro (a17.map gBind.enc) (And.intro (rowX (rowN (show ([].map gBind.enc) ++ (a17.map gBind.enc) = a17.map gBind.enc by simp) (show (0 + (a17.map gBind.enc : List PV).length) = (a17.map gBind.enc).length by simp)) (show fits _ _ from ⟨⟨rfl, rfl⟩, trivial⟩) (appfitJ (by first | simpa using g7 | (simp at g7 ⊢; omega)) rfl)) ?_)
            refine .inl (Exists.intro _ (And.intro (rowN (show (a17.map gBind.enc) ++ [(gBind.mk a15.tx a16).enc] = (a17 ++ [(gBind.mk a15.tx a16)]).map gBind.enc by simp) (show ((0 + (a17.map gBind.enc : List PV).length) + ([(gBind.mk a15.tx a16).enc] : List PV).length) = ((a17 ++ [(gBind.mk a15.tx a16)]).map gBind.enc).length by simp)) ?_))
            replace h := Option.some.inj h
            subst h
            exact ⟨[.p (.lst ((a17 ++ [(gBind.mk a15.tx a16)]).map gBind.enc)), .p (B true)], [], ⟨[], ⟨rfl, rfl, trivial⟩, trivial, rfl⟩, rfl, rfl, rfl⟩
          · refine And.intro (show fits _ _ from ⟨⟨rfl, rfl⟩, trivial⟩) ?_
            refine Exists.intro ([].map gBind.enc) (And.intro (rowX (rowN (show [] = [].map gBind.enc by simp) (show 0 = ([].map gBind.enc).length by simp)) (fits_map (e := gBind.enc) (fun _ => ⟨rfl, rfl⟩) _) (appfitJ (by first | simpa using g8 | (simp at g8 ⊢; omega)) rfl)) ?_)
            refine Exists.intro ([(gBind.mk a15.tx a16).enc]) (And.intro (rowN rfl rfl) ?_)
            refine Exists.intro (a17.map gBind.enc) (And.intro (rowX (rowN (show ([].map gBind.enc) ++ (a17.map gBind.enc) = a17.map gBind.enc by simp) (show (0 + (a17.map gBind.enc : List PV).length) = (a17.map gBind.enc).length by simp)) (show fits _ _ from ⟨⟨rfl, rfl⟩, trivial⟩) (appfitJ (by first | simpa using g7 | (simp at g7 ⊢; omega)) rfl)) ?_)
            refine .inl (Exists.intro _ (And.intro (rowN (show (a17.map gBind.enc) ++ [(gBind.mk a15.tx a16).enc] = (a17 ++ [(gBind.mk a15.tx a16)]).map gBind.enc by simp) (show ((0 + (a17.map gBind.enc : List PV).length) + ([(gBind.mk a15.tx a16).enc] : List PV).length) = ((a17 ++ [(gBind.mk a15.tx a16)]).map gBind.enc).length by simp)) ?_))
            replace h := Option.some.inj h
            subst h
            exact ⟨[.p (.lst ((a17 ++ [(gBind.mk a15.tx a16)]).map gBind.enc)), .p (B true)], [], ⟨[], ⟨rfl, rfl, trivial⟩, trivial, rfl⟩, rfl, rfl, rfl⟩
        · refine And.intro (show fits _ _ from ⟨⟨rfl, rfl⟩, trivial⟩) ?_
          refine And.intro (show fits _ _ from trivial) ?_
          refine Exists.intro ([].map gBind.enc) (And.intro (rowX (rowN (show [] = [].map gBind.enc by simp) (show 0 = ([].map gBind.enc).length by simp)) (fits_map (e := gBind.enc) (fun _ => ⟨rfl, rfl⟩) _) (appfitJ (by first | simpa using g8 | (simp at g8 ⊢; omega)) rfl)) ?_)
          refine Exists.intro ([(gBind.mk a15.tx a16).enc]) (And.intro (rowN rfl rfl) ?_)
          refine Exists.intro (a17.map gBind.enc) (And.intro (rowX (rowN (show ([].map gBind.enc) ++ (a17.map gBind.enc) = a17.map gBind.enc by simp) (show (0 + (a17.map gBind.enc : List PV).length) = (a17.map gBind.enc).length by simp)) (show fits _ _ from ⟨⟨rfl, rfl⟩, trivial⟩) (appfitJ (by first | simpa using g7 | (simp at g7 ⊢; omega)) rfl)) ?_)
          refine .inl (Exists.intro _ (And.intro (rowN (show (a17.map gBind.enc) ++ [(gBind.mk a15.tx a16).enc] = (a17 ++ [(gBind.mk a15.tx a16)]).map gBind.enc by simp) (show ((0 + (a17.map gBind.enc : List PV).length) + ([(gBind.mk a15.tx a16).enc] : List PV).length) = ((a17 ++ [(gBind.mk a15.tx a16)]).map gBind.enc).length by simp)) ?_))
          replace h := Option.some.inj h
          subst h
          exact ⟨[.p (.lst ((a17 ++ [(gBind.mk a15.tx a16)]).map gBind.enc)), .p (B true)], [], ⟨[], ⟨rfl, rfl, trivial⟩, trivial, rfl⟩, rfl, rfl, rfl⟩
    · replace h := cF h c
      refine .inl ?_
      refine .inr ⟨Bool, fun x => ([(2, .p (.lst (a17.map gBind.enc))), (3, .ptr 0 0), (4, .ptr 1 0), (63, .p (B x))], [.box 31 [.p (S a15.nm), .p (S a15.tx), .p (B a15.lf), .p (.lst (encM a15.ks))], .box 31 [.p (S a16.nm), .p (S a16.tx), .p (B a16.lf), .p (.lst (encM a16.ks))]]), fun x => m_spec_l11Match_j2 (m_spec_l11Match n) n a15 a16 a17 x = some r, ?_, ?_⟩
      · refine And.intro (fun c => ?_) (fun c => ?_)
        · replace h := cF h c
          refine And.intro (fun _ => ?_) (fun c => absurd c (by decide))
          refine And.intro (fun _ => ?_) (fun c => absurd c (by decide))
          refine And.intro (fun _ => ?_) (fun c => absurd c (by decide))
          refine And.intro (fun _ => ?_) (fun c => absurd c (by decide))
          refine And.intro (fun c => absurd c (by decide)) (fun _ => ?_)
          refine And.intro (fun c => ?_) (fun c => ?_)
          · replace h := cF h c
            refine And.intro (fun _ => ?_) (fun c => absurd c (by decide))
            refine And.intro (fun _ => ?_) (fun c => absurd c (by decide))
            refine And.intro (fun _ => ?_) (fun c => absurd c (by decide))
            refine And.intro (fun _ => ?_) (fun c => absurd c (by decide))
            refine And.intro (fun c => absurd c (by decide)) (fun _ => ?_)
            refine And.intro (fun c => ?_) (fun c => ?_)
            · replace h := cF h c
              refine And.intro (fun _ => ?_) (fun c => absurd c (by decide))
              refine And.intro (fun _ => ?_) (fun c => absurd c (by decide))
              refine And.intro (fun _ => ?_) (fun c => absurd c (by decide))
              refine And.intro (fun _ => ?_) (fun c => absurd c (by decide))
              refine And.intro (fun _ => ?_) (fun c => absurd c (by decide))
              refine And.intro (fun _ => ?_) (fun c => absurd c (by decide))
              refine And.intro (fun c => absurd c (by decide)) (fun _ => ?_)
              exact ⟨(((encM a15.ks).length : Int) != ((encM a16.ks).length : Int)), h, [], ⟨rfl, rfl, rfl, rfl, trivial⟩, ⟨⟨rfl, rfl, rfl, rfl, rfl, trivial⟩, ⟨rfl, rfl, rfl, rfl, rfl, trivial⟩, trivial⟩, rfl⟩
            · replace h := cT h c
              refine And.intro (fun c => absurd c (by decide)) (fun _ => ?_)
              refine And.intro (fun c => absurd c (by decide)) (fun _ => ?_)
              refine And.intro (fun c => absurd c (by decide)) (fun _ => ?_)
              refine And.intro (fun c => absurd c (by decide)) (fun _ => ?_)
              refine And.intro (fun c => absurd c (by decide)) (fun _ => ?_)
              refine And.intro (fun c => absurd c (by decide)) (fun _ => ?_)
              refine And.intro (fun _ => ?_) (fun c => absurd c (by decide))
              exact ⟨true, h, [], ⟨rfl, rfl, rfl, rfl, trivial⟩, ⟨⟨rfl, rfl, rfl, rfl, rfl, trivial⟩, ⟨rfl, rfl, rfl, rfl, rfl, trivial⟩, trivial⟩, rfl⟩
          · replace h := cT h c
            refine And.intro (fun c => absurd c (by decide)) (fun _ => ?_)
            refine And.intro (fun c => absurd c (by decide)) (fun _ => ?_)
            refine And.intro (fun c => absurd c (by decide)) (fun _ => ?_)
            refine And.intro (fun c => absurd c (by decide)) (fun _ => ?_)
            refine And.intro (fun _ => ?_) (fun c => absurd c (by decide))
            refine And.intro (fun c => absurd c (by decide)) (fun _ => ?_)
            refine And.intro (fun c => absurd c (by decide)) (fun _ => ?_)
            refine And.intro (fun c => absurd c (by decide)) (fun _ => ?_)
            refine And.intro (fun c => absurd c (by decide)) (fun _ => ?_)
            refine And.intro (fun c => absurd c (by decide)) (fun _ => ?_)
            refine And.intro (fun c => absurd c (by decide)) (fun _ => ?_)
            refine And.intro (fun c => absurd c (by decide)) (fun _ => ?_)
            refine And.intro (fun _ => ?_) (fun c => absurd c (by decide))
            exact ⟨true, h, [], ⟨rfl, rfl, rfl, rfl, trivial⟩, ⟨⟨rfl, rfl, rfl, rfl, rfl, trivial⟩, ⟨rfl, rfl, rfl, rfl, rfl, trivial⟩, trivial⟩, rfl⟩
        · replace h := cT h c
          refine And.intro (fun c => absurd c (by decide)) (fun _ => ?_)
          refine And.intro (fun c => absurd c (by decide)) (fun _ => ?_)
          refine And.intro (fun c => absurd c (by decide)) (fun _ => ?_)
          refine And.intro (fun c => absurd c (by decide)) (fun _ => ?_)
          refine And.intro (fun _ => ?_) (fun c => absurd c (by decide))
          refine And.intro (fun c => absurd c (by decide)) (fun _ => ?_)
          refine And.intro (fun c => absurd c (by decide)) (fun _ => ?_)
          refine And.intro (fun c => absurd c (by decide)) (fun _ => ?_)
          refine And.intro (fun c => absurd c (by decide)) (fun _ => ?_)
          refine And.intro (fun c => absurd c (by decide)) (fun _ => ?_)
          refine And.intro (fun _ => ?_) (fun c => absurd c (by decide))
          refine And.intro (fun c => absurd c (by decide)) (fun _ => ?_)
          refine And.intro (fun c => absurd c (by decide)) (fun _ => ?_)
          refine And.intro (fun c => absurd c (by decide)) (fun _ => ?_)
          refine And.intro (fun c => absurd c (by decide)) (fun _ => ?_)
          refine And.intro (fun c => absurd c (by decide)) (fun _ => ?_)
          refine And.intro (fun c => absurd c (by decide)) (fun _ => ?_)
          refine And.intro (fun c => absurd c (by decide)) (fun _ => ?_)
          refine And.intro (fun _ => ?_) (fun c => absurd c (by decide))
          exact ⟨true, h, [], ⟨rfl, rfl, rfl, rfl, trivial⟩, ⟨⟨rfl, rfl, rfl, rfl, rfl, trivial⟩, ⟨rfl, rfl, rfl, rfl, rfl, trivial⟩, trivial⟩, rfl⟩
      · rintro v33 h
        unfold m_spec_l11Match_j2 at h
        refine And.intro (fun c => ?_) (fun c => ?_)
        · replace h := cT h c
          refine .inl ?_
          replace h := Option.some.inj h
          subst h
          exact ⟨[.p (.lst (a17.map gBind.enc)), .p (B false)], [], ⟨[], ⟨rfl, rfl, trivial⟩, trivial, rfl⟩, rfl, rfl, rfl⟩
        · replace h := cF h c
          refine .inl ?_
          refine .inr ⟨List gBind × Bool, fun x => ([(2, .p (.lst (x.1.map gBind.enc))), (9, .p (B x.2))], []), fun x => m_spec_l11Match_j4 x.1 x.2 = some r, ?_, ?_⟩
          · refine .inl ?_
            refine ⟨List gBind × Bool × Int, fun x => ([(2, .p (.lst (x.1.map gBind.enc))), (3, .ptr 0 0), (4, .ptr 1 0), (9, .p (B x.2.1)), (10, .p (I x.2.2))], [.box 31 [.p (S a15.nm), .p (S a15.tx), .p (B a15.lf), .p (.lst (encM a15.ks))], .box 31 [.p (S a16.nm), .p (S a16.tx), .p (B a16.lf), .p (.lst (encM a16.ks))]]), fun x k => m_spec_l11Match_l5 (m_spec_l11Match n) a15 a16 k x.1 x.2.1 x.2.2 = some r, ⟨(a17, true, 0), n, h, [], ⟨rfl, rfl, rfl, rfl, rfl, trivial⟩, ⟨⟨rfl, rfl, rfl, rfl, rfl, trivial⟩, ⟨rfl, rfl, rfl, rfl, rfl, trivial⟩, trivial⟩, rfl⟩, ?_⟩
            rintro ⟨v42, v43, v44⟩ (_ | k5) h
            · exact ns h
            unfold m_spec_l11Match_l5 at h
            refine .inl ?_
            refine .inl ?_
            refine And.intro (fun c => ?_) (fun c => ?_)
            · replace h := cT h c
              refine And.intro (fun _ => ?_) (fun c => absurd c (by decide))
              refine And.intro (fun c => ?_) (fun c => ?_)
              · replace h := cT h c
                refine .inl ?_
                refine ⟨[0, 1, 2, 3, 4, 5, 6, 7, 8, 9, 10, 11, 12, 13, 14, 15, 16], [], by decide +kernel, ?_⟩
                obtain ⟨x67, hx67, h⟩ := bsm h
                refine And.intro (ix0 hx67) (Exists.intro _ (And.intro (encM_get (ixg hx67)) (And.intro rfl ?_)))
                obtain ⟨x68, hx68, h⟩ := bsm h
                refine And.intro (ix0 hx68) (Exists.intro _ (And.intro (encM_get (ixg hx68)) (And.intro rfl ?_)))
                obtain ⟨r50, hr50, h⟩ := bsm h
                refine callA (ih_spec_l11Match x67 x68 v42 _ hr50) ?_
                exact ⟨(r50.1, r50.2, (wr .i64 (v44 + 1))), k5, h, Nat.lt_succ_self _, [], ⟨rfl, rfl, rfl, rfl, rfl, trivial⟩, ⟨⟨rfl, rfl, rfl, rfl, rfl, trivial⟩, ⟨rfl, rfl, rfl, rfl, rfl, trivial⟩, trivial⟩, rfl⟩
              · replace h := cF h c
                exact ⟨(v42, v43), h, [], ⟨rfl, rfl, trivial⟩, trivial, rfl⟩
            · replace h := cF h c
              refine And.intro (fun c => absurd c (by decide)) (fun _ => ?_)
              refine And.intro (fun c => absurd c (by decide)) (fun _ => ?_)
              exact ⟨(v42, v43), h, [], ⟨rfl, rfl, trivial⟩, trivial, rfl⟩
          · rintro ⟨v40, v41⟩ h
            unfold m_spec_l11Match_j4 at h
            refine .inl ?_
            replace h := Option.some.inj h
            subst h
            exact ⟨[.p (.lst (v40.map gBind.enc)), .p (B v41)], [], ⟨[], ⟨rfl, rfl, trivial⟩, trivial, rfl⟩, rfl, rfl, rfl⟩
def m_spec_l01Copy_j2 (a18 : Tree) (v52 : List Tree) : Option Tree :=
  some (Tree.mk a18.nm a18.tx a18.lf v52)
def m_spec_l01Copy_l3 (self_spec_l01Copy : Tree → Option Tree) (a18 : Tree) : Nat → Int → List Tree → Option Tree
  | 0, _, _ => none
  | k3 + 1, v53, v54 =>
    bif (decide (v53 < ((encM a18.ks).length : Int))) then (
      (ix a18.ks v53).bind fun x74 =>
      (self_spec_l01Copy x74).bind fun r56 =>
      gp (v54.length + ([r56] : List Tree).length ≤ 68719476736) <|
      (m_spec_l01Copy_l3 self_spec_l01Copy a18 k3) (wr .i64 (v53 + 1)) (v54 ++ [r56]))
    else (
      m_spec_l01Copy_j2 a18 v54)
def m_spec_l01Copy : Nat → Tree → Option Tree
  | 0, _ => none
  | n + 1, a18 =>
    m_spec_l01Copy_l3 (m_spec_l01Copy n) a18 n 0 []
theorem c_spec_l01Copy : ∀ (n : Nat) (a18 : Tree) (r : Tree) (h : m_spec_l01Copy n a18 = some r), FnP Try.prog 64 [a18.enc] [r.enc]
  | 0, _, r, h => ns h
  | n + 1, a18, r, h => by
    have ih_spec_l01Copy := c_spec_l01Copy n
    unfold m_spec_l01Copy at h
    refine fn_introJ Try.func64 rfl rfl rfl ?_
    refine .inl ?_
    refine .inl ?_
    refine And.intro (show fits _ _ from trivial) ?_
    refine .inr ⟨List Tree, fun x => ([(1, .ptr 0 0), (2, .ptr 1 0), (3, .row 2 4 0 x.length)], [.box 31 [.p (S a18.nm), .p (S a18.tx), .p (B a18.lf), .p (.lst (encM a18.ks))], .box 31 [.p (S ⟨#[]⟩), .p (S ⟨#[]⟩), .p (B false), .tl []], .row 31 4 (encM x)]), fun x => m_spec_l01Copy_j2 a18 x = some r, ?_, ?_⟩
    · refine .inl ?_
      refine ⟨Int × List Tree, fun x => ([(1, .ptr 0 0), (2, .ptr 1 0), (3, .row 2 4 0 x.2.length), (4, .p (I x.1))], [.box 31 [.p (S a18.nm), .p (S a18.tx), .p (B a18.lf), .p (.lst (encM a18.ks))], .box 31 [.p (S ⟨#[]⟩), .p (S ⟨#[]⟩), .p (B false), .tl []], .row 31 4 (encM x.2)]), fun x k => m_spec_l01Copy_l3 (m_spec_l01Copy n) a18 k x.1 x.2 = some r, ⟨(0, []), n, h, [], ⟨rfl, rfl, (congrArg (AV.row 2 4 0) (show [].length = 0 by simp)), rfl, trivial⟩, ⟨⟨rfl, rfl, rfl, rfl, rfl, trivial⟩, ⟨rfl, rfl, rfl, rfl, rfl, trivial⟩, (congrArg (Bk.row 31 4) (show encM [] = [] by simp)), trivial⟩, rfl⟩, ?_⟩
      rintro ⟨v53, v54⟩ (_ | k3) h
      · exact ns h
      unfold m_spec_l01Copy_l3 at h
      refine .inl ?_
      refine .inl ?_
      refine And.intro (fun c => ?_) (fun c => ?_)
      · replace h := cT h c
        refine .inl ?_
        obtain ⟨x74, hx74, h⟩ := bsm h
        refine And.intro (ix0 hx74) (Exists.intro _ (And.intro (encM_get (ixg hx74)) (And.intro rfl ?_)))
        obtain ⟨r56, hr56, h⟩ := bsm h
        refine callA (ih_spec_l01Copy x74 _ hr56) ?_
        refine And.intro (show fits _ _ from ⟨⟨rfl, rfl⟩, trivial⟩) ?_
        obtain ⟨g6, h⟩ := gpT h
        refine Exists.intro ([r56.enc]) (And.intro (rowN rfl rfl) ?_)
        refine Exists.intro (encM v54) (And.intro (rowX (rowN rfl (show v54.length = (encM v54).length by simp)) (show fits _ _ from ⟨⟨rfl, rfl⟩, trivial⟩) (appfitJ (by first | simpa using g6 | (simp at g6 ⊢; omega)) rfl)) ?_)
        exact ⟨((wr .i64 (v53 + 1)), (v54 ++ [r56])), k3, h, Nat.lt_succ_self _, [], ⟨rfl, rfl, (congrArg (AV.row 2 4 0) (show (v54 ++ [r56]).length = (v54.length + ([r56.enc] : List PV).length) by simp)), rfl, trivial⟩, ⟨⟨rfl, rfl, rfl, rfl, rfl, trivial⟩, ⟨rfl, rfl, rfl, rfl, rfl, trivial⟩, (congrArg (Bk.row 31 4) (show encM (v54 ++ [r56]) = (encM v54) ++ [r56.enc] by simp)), trivial⟩, rfl⟩
      · replace h := cF h c
        exact ⟨v54, h, [], ⟨rfl, rfl, rfl, trivial⟩, ⟨⟨rfl, rfl, rfl, rfl, rfl, trivial⟩, ⟨rfl, rfl, rfl, rfl, rfl, trivial⟩, rfl, trivial⟩, rfl⟩
    · rintro v52 h
      unfold m_spec_l01Copy_j2 at h
      refine .inl ?_
      refine .inl ?_
      refine .inl (Exists.intro _ (And.intro (rowN rfl (show v52.length = (encM v52).length by simp)) ?_))
      replace h := Option.some.inj h
      subst h
      exact ⟨[.p ((Tree.mk a18.nm a18.tx a18.lf v52).enc)], [], ⟨[], ⟨rfl, trivial⟩, trivial, rfl⟩, rfl, rfl, rfl⟩
def m_spec_Match_j4 (v63 : List gBind) : Option (List gBind × Bool × Int) :=
  some (v63, true, 0)
def m_spec_Match_l5 (n : Nat) (r63 : List gBind × Bool) : Nat → Int → List gBind → Option (List gBind × Bool × Int)
  | 0, _, _ => none
  | k5 + 1, v64, v65 =>
    bif (decide (v64 < ((r63.1.map gBind.enc).length : Int))) then (
      (ix r63.1 v64).bind fun x97 =>
      (ix r63.1 v64).bind fun x98 =>
      (m_spec_l01Copy n x98.tree_).bind fun r75 =>
      gp (v65.length + ([(gBind.mk x97.name_ r75)] : List gBind).length ≤ 68719476736) <|
      (m_spec_Match_l5 n r63 k5) (wr .i64 (v64 + 1)) (v65 ++ [(gBind.mk x97.name_ r75)]))
    else (
      m_spec_Match_j4 v65)
def m_spec_Match_j2 (n : Nat) (a19 : Tree) (a20 : Tree) (v58 : Bool) : Option (List gBind × Bool × Int) :=
  bif v58 then (
    some ([], false, 1))
  else (
    (m_spec_l11Match n a19 a20 []).bind fun r63 =>
    bif (!r63.2) then (
      some ([], false, 0))
    else (
      m_spec_Match_l5 n r63 n 0 []))
def m_spec_Match (n : Nat) (a19 : Tree) (a20 : Tree) : Option (List gBind × Bool × Int) :=
  (m_spec_l11Pattern n a19).bind fun r76 =>
  bif (!r76) then (
    m_spec_Match_j2 n a19 a20 true)
  else (
    (m_spec_TreeOK n a20).bind fun r77 =>
    m_spec_Match_j2 n a19 a20 (!r77))
theorem c_spec_Match (n : Nat) (a19 : Tree) (a20 : Tree) (r : List gBind × Bool × Int) (h : m_spec_Match n a19 a20 = some r) : FnP Try.prog 13 [a19.enc, a20.enc] [.lst (r.1.map gBind.enc), B r.2.1, I r.2.2] := by
  unfold m_spec_Match at h
  refine fn_introJ Try.func13 rfl rfl rfl ?_
  refine .inl ?_
  refine .inl ?_
  refine .inr ⟨Bool, fun x => ([(2, .ptr 0 0), (3, .ptr 1 0), (18, .p (B x))], [.box 31 [.p (S a19.nm), .p (S a19.tx), .p (B a19.lf), .p (.lst (encM a19.ks))], .box 31 [.p (S a20.nm), .p (S a20.tx), .p (B a20.lf), .p (.lst (encM a20.ks))]]), fun x => m_spec_Match_j2 n a19 a20 x = some r, ?_, ?_⟩
  · obtain ⟨r76, hr76, h⟩ := bsm h
    refine callA (c_spec_l11Pattern n a19 _ hr76) ?_
    refine And.intro (fun c => ?_) (fun c => ?_)
    · replace h := cF h c
      refine And.intro (fun _ => ?_) (fun c => absurd c (by decide))
      obtain ⟨r77, hr77, h⟩ := bsm h
      refine callA (c_spec_TreeOK n a20 _ hr77) ?_
      refine And.intro (fun _ => ?_) (fun c => absurd c (by decide))
      refine And.intro (fun c => absurd c (by decide)) (fun _ => ?_)
      exact ⟨(!r77), h, [], ⟨rfl, rfl, rfl, trivial⟩, ⟨⟨rfl, rfl, rfl, rfl, rfl, trivial⟩, ⟨rfl, rfl, rfl, rfl, rfl, trivial⟩, trivial⟩, rfl⟩
    · replace h := cT h c
      refine And.intro (fun c => absurd c (by decide)) (fun _ => ?_)
      refine And.intro (fun c => absurd c (by decide)) (fun _ => ?_)
      refine And.intro (fun _ => ?_) (fun c => absurd c (by decide))
      exact ⟨true, h, [], ⟨rfl, rfl, rfl, trivial⟩, ⟨⟨rfl, rfl, rfl, rfl, rfl, trivial⟩, ⟨rfl, rfl, rfl, rfl, rfl, trivial⟩, trivial⟩, rfl⟩
  · rintro v58 h
    unfold m_spec_Match_j2 at h
    refine And.intro (fun c => ?_) (fun c => ?_)
    · replace h := cT h c
      refine .inl ?_
      refine And.intro (show fits _ _ from trivial) ?_
      refine .inl (Exists.intro _ (And.intro (rowN (show [] = [].map gBind.enc by simp) (show 0 = ([].map gBind.enc).length by simp)) ?_))
      replace h := Option.some.inj h
      subst h
      exact ⟨[.p (.lst ([].map gBind.enc)), .p (B false), .p (I 1)], [], ⟨[], ⟨rfl, rfl, rfl, trivial⟩, trivial, rfl⟩, rfl, rfl, rfl⟩
    · replace h := cF h c
      refine .inl ?_
      refine And.intro (show fits _ _ from trivial) ?_
      obtain ⟨r63, hr63, h⟩ := bsm h
      refine callP (c_spec_l11Match n a19 a20 [] _ hr63) (fun K hk => Exists.intro _ (And.intro (rowN (show [] = [].map gBind.enc by simp) (show 0 = ([].map gBind.enc).length by simp)) hk)) ?_
      refine .inl ?_
      refine .inl ?_
      refine And.intro (fun c => ?_) (fun c => ?_)
      · replace h := cT h c
        refine .inl ?_
        refine And.intro (show fits _ _ from trivial) ?_
        refine .inl (Exists.intro _ (And.intro (rowN (show [] = [].map gBind.enc by simp) (show 0 = ([].map gBind.enc).length by simp)) ?_))
        replace h := Option.some.inj h
        subst h
        exact ⟨[.p (.lst ([].map gBind.enc)), .p (B false), .p (I 0)], [], ⟨[], ⟨rfl, rfl, rfl, trivial⟩, trivial, rfl⟩, rfl, rfl, rfl⟩
      · replace h := cF h c
        refine .inl ?_
        refine And.intro (show fits _ _ from trivial) ?_
        refine .inr ⟨List gBind, fun x => ([(9, .row 0 5 0 x.length)], [.row 100 5 (x.map gBind.enc)]), fun x => m_spec_Match_j4 x = some r, ?_, ?_⟩
        · refine .inl ?_
          refine ⟨Int × List gBind, fun x => ([(7, .p (.lst (r63.1.map gBind.enc))), (9, .row 0 5 0 x.2.length), (10, .p (I x.1))], [.row 100 5 (x.2.map gBind.enc)]), fun x k => m_spec_Match_l5 n r63 k x.1 x.2 = some r, ⟨(0, []), n, h, [(999999, 3)], ⟨rfl, (congrArg (AV.row 0 5 0) (show [].length = 0 by simp)), rfl, trivial⟩, ⟨(congrArg (Bk.row 100 5) (show [].map gBind.enc = [] by simp)), trivial⟩, rfl⟩, ?_⟩
          rintro ⟨v64, v65⟩ (_ | k5) h
          · exact ns h
          unfold m_spec_Match_l5 at h
          refine .inl ?_
          refine .inl ?_
          refine And.intro (fun c => ?_) (fun c => ?_)
          · replace h := cT h c
            refine .inl ?_
            refine ⟨[0, 1, 2, 3, 4, 5, 6, 7, 8, 9, 10, 11, 12, 13, 14, 15], [0], by decide +kernel, ?_⟩
            obtain ⟨x97, hx97, h⟩ := bsm h
            refine And.intro (ix0 hx97) (Exists.intro _ (And.intro (gm (ixg hx97)) (And.intro rfl ?_)))
            obtain ⟨x98, hx98, h⟩ := bsm h
            refine And.intro (ix0 hx98) (Exists.intro _ (And.intro (gm (ixg hx98)) (And.intro rfl ?_)))
            obtain ⟨r75, hr75, h⟩ := bsm h
            refine callA (c_spec_l01Copy n x98.tree_ _ hr75) ?_
            refine And.intro (show fits _ _ from ⟨⟨rfl, rfl⟩, trivial⟩) ?_
            obtain ⟨g12, h⟩ := gpT h
            refine Exists.intro ([(gBind.mk x97.name_ r75).enc]) (And.intro (rowN rfl rfl) ?_)
            refine Exists.intro (v65.map gBind.enc) (And.intro (rowX (rowN rfl (show v65.length = (v65.map gBind.enc).length by simp)) (show fits _ _ from ⟨⟨rfl, rfl⟩, trivial⟩) (appfitJ (by first | simpa using g12 | (simp at g12 ⊢; omega)) rfl)) ?_)
            exact ⟨((wr .i64 (v64 + 1)), (v65 ++ [(gBind.mk x97.name_ r75)])), k5, h, Nat.lt_succ_self _, [], ⟨rfl, (congrArg (AV.row 0 5 0) (show (v65 ++ [(gBind.mk x97.name_ r75)]).length = (v65.length + ([(gBind.mk x97.name_ r75).enc] : List PV).length) by simp)), rfl, trivial⟩, ⟨(congrArg (Bk.row 100 5) (show (v65 ++ [(gBind.mk x97.name_ r75)]).map gBind.enc = (v65.map gBind.enc) ++ [(gBind.mk x97.name_ r75).enc] by simp)), trivial⟩, rfl⟩
          · replace h := cF h c
            exact ⟨v65, h, [], ⟨rfl, trivial⟩, ⟨rfl, trivial⟩, rfl⟩
        · rintro v63 h
          unfold m_spec_Match_j4 at h
          refine .inl ?_
          refine .inl (Exists.intro _ (And.intro (rowN rfl (show v63.length = (v63.map gBind.enc).length by simp)) ?_))
          replace h := Option.some.inj h
          subst h
          exact ⟨[.p (.lst (v63.map gBind.enc)), .p (B true), .p (I 0)], [], ⟨[], ⟨rfl, rfl, rfl, trivial⟩, trivial, rfl⟩, rfl, rfl, rfl⟩
def m_impl_isLetter (n : Nat) (a21 : Int) : Option Bool :=
  bif (decide (a21 ≥ 97)) then (
    bif (decide (a21 ≤ 122)) then (
      some true)
    else (
      bif (decide (a21 ≥ 65)) then (
        some (decide (a21 ≤ 90)))
      else (
        some false)))
  else (
    bif (decide (a21 ≥ 65)) then (
      some (decide (a21 ≤ 90)))
    else (
      some false))
theorem c_impl_isLetter (n : Nat) (a21 : Int) (r : Bool) (h : m_impl_isLetter n a21 = some r) : FnP Try.prog 161 [.raw (.int .u8 a21)] [B r] := by
  unfold m_impl_isLetter at h
  refine fn_introJ Try.func161 rfl rfl rfl ?_
  refine .inl ?_
  refine .inl ?_
  refine And.intro (fun c => ?_) (fun c => ?_)
  · replace h := cT h c
    refine And.intro (fun _ => ?_) (fun c => absurd c (by decide))
    refine And.intro (fun _ => ?_) (fun c => absurd c (by decide))
    refine And.intro (fun c => ?_) (fun c => ?_)
    · replace h := cF h c
      refine And.intro (fun _ => ?_) (fun c => absurd c (by decide))
      refine And.intro (fun _ => ?_) (fun c => absurd c (by decide))
      refine And.intro (fun c => ?_) (fun c => ?_)
      · replace h := cT h c
        refine And.intro (fun _ => ?_) (fun c => absurd c (by decide))
        refine And.intro (fun _ => ?_) (fun c => absurd c (by decide))
        refine And.intro (fun _ => ?_) (fun c => absurd c (by decide))
        refine And.intro (fun c => absurd c (by decide)) (fun _ => ?_)
        replace h := Option.some.inj h
        subst h
        exact ⟨[.p (B (decide (a21 ≤ 90)))], [], ⟨[], ⟨rfl, trivial⟩, trivial, rfl⟩, rfl, rfl, rfl⟩
      · replace h := cF h c
        refine And.intro (fun c => absurd c (by decide)) (fun _ => ?_)
        refine And.intro (fun _ => ?_) (fun c => absurd c (by decide))
        refine And.intro (fun c => absurd c (by decide)) (fun _ => ?_)
        refine And.intro (fun c => absurd c (by decide)) (fun _ => ?_)
        replace h := Option.some.inj h
        subst h
        exact ⟨[.p (B false)], [], ⟨[], ⟨rfl, trivial⟩, trivial, rfl⟩, rfl, rfl, rfl⟩
    · replace h := cT h c
      refine And.intro (fun c => absurd c (by decide)) (fun _ => ?_)
      refine And.intro (fun c => absurd c (by decide)) (fun _ => ?_)
      refine And.intro (fun c => absurd c (by decide)) (fun _ => ?_)
      refine And.intro (fun _ => ?_) (fun c => absurd c (by decide))
      replace h := Option.some.inj h
      subst h
      exact ⟨[.p (B true)], [], ⟨[], ⟨rfl, trivial⟩, trivial, rfl⟩, rfl, rfl, rfl⟩
  · replace h := cF h c
    refine And.intro (fun c => absurd c (by decide)) (fun _ => ?_)
    refine And.intro (fun c => absurd c (by decide)) (fun _ => ?_)
    refine And.intro (fun _ => ?_) (fun c => absurd c (by decide))
    refine And.intro (fun _ => ?_) (fun c => absurd c (by decide))
    refine And.intro (fun _ => ?_) (fun c => absurd c (by decide))
    refine And.intro (fun c => ?_) (fun c => ?_)
    · replace h := cT h c
      refine And.intro (fun _ => ?_) (fun c => absurd c (by decide))
      refine And.intro (fun _ => ?_) (fun c => absurd c (by decide))
      refine And.intro (fun _ => ?_) (fun c => absurd c (by decide))
      refine And.intro (fun c => absurd c (by decide)) (fun _ => ?_)
      replace h := Option.some.inj h
      subst h
      exact ⟨[.p (B (decide (a21 ≤ 90)))], [], ⟨[], ⟨rfl, trivial⟩, trivial, rfl⟩, rfl, rfl, rfl⟩
    · replace h := cF h c
      refine And.intro (fun c => absurd c (by decide)) (fun _ => ?_)
      refine And.intro (fun _ => ?_) (fun c => absurd c (by decide))
      refine And.intro (fun c => absurd c (by decide)) (fun _ => ?_)
      refine And.intro (fun c => absurd c (by decide)) (fun _ => ?_)
      replace h := Option.some.inj h
      subst h
      exact ⟨[.p (B false)], [], ⟨[], ⟨rfl, trivial⟩, trivial, rfl⟩, rfl, rfl, rfl⟩
def m_impl_isDigit (n : Nat) (a22 : Int) : Option Bool :=
  bif (decide (a22 ≥ 48)) then (
    some (decide (a22 ≤ 57)))
  else (
    some false)
theorem c_impl_isDigit (n : Nat) (a22 : Int) (r : Bool) (h : m_impl_isDigit n a22 = some r) : FnP Try.prog 214 [.raw (.int .u8 a22)] [B r] := by
  unfold m_impl_isDigit at h
  refine fn_introJ Try.func214 rfl rfl rfl ?_
  refine .inl ?_
  refine .inl ?_
  refine And.intro (fun c => ?_) (fun c => ?_)
  · replace h := cT h c
    refine And.intro (fun _ => ?_) (fun c => absurd c (by decide))
    refine And.intro (fun _ => ?_) (fun c => absurd c (by decide))
    replace h := Option.some.inj h
    subst h
    exact ⟨[.p (B (decide (a22 ≤ 57)))], [], ⟨[], ⟨rfl, trivial⟩, trivial, rfl⟩, rfl, rfl, rfl⟩
  · replace h := cF h c
    refine And.intro (fun c => absurd c (by decide)) (fun _ => ?_)
    refine And.intro (fun c => absurd c (by decide)) (fun _ => ?_)
    replace h := Option.some.inj h
    subst h
    exact ⟨[.p (B false)], [], ⟨[], ⟨rfl, trivial⟩, trivial, rfl⟩, rfl, rfl, rfl⟩
def m_impl_inName (n : Nat) (a23 : Int) : Option Bool :=
  (m_impl_isLetter n a23).bind fun r78 =>
  bif r78 then (
    some true)
  else (
    (m_impl_isDigit n a23).bind fun r79 =>
    bif r79 then (
      some true)
    else (
      some (a23 == 95)))
theorem c_impl_inName (n : Nat) (a23 : Int) (r : Bool) (h : m_impl_inName n a23 = some r) : FnP Try.prog 162 [.raw (.int .u8 a23)] [B r] := by
  unfold m_impl_inName at h
  refine fn_introJ Try.func162 rfl rfl rfl ?_
  refine .inl ?_
  refine .inl ?_
  obtain ⟨r78, hr78, h⟩ := bsm h
  refine callA (c_impl_isLetter n a23 _ hr78) ?_
  refine And.intro (fun c => ?_) (fun c => ?_)
  · replace h := cF h c
    refine And.intro (fun _ => ?_) (fun c => absurd c (by decide))
    obtain ⟨r79, hr79, h⟩ := bsm h
    refine callA (c_impl_isDigit n a23 _ hr79) ?_
    refine And.intro (fun c => absurd c (by decide)) (fun _ => ?_)
    refine And.intro (fun c => ?_) (fun c => ?_)
    · replace h := cF h c
      refine And.intro (fun _ => ?_) (fun c => absurd c (by decide))
      refine And.intro (fun c => absurd c (by decide)) (fun _ => ?_)
      replace h := Option.some.inj h
      subst h
      exact ⟨[.p (B (a23 == 95))], [], ⟨[], ⟨rfl, trivial⟩, trivial, rfl⟩, rfl, rfl, rfl⟩
    · replace h := cT h c
      refine And.intro (fun c => absurd c (by decide)) (fun _ => ?_)
      refine And.intro (fun _ => ?_) (fun c => absurd c (by decide))
      replace h := Option.some.inj h
      subst h
      exact ⟨[.p (B true)], [], ⟨[], ⟨rfl, trivial⟩, trivial, rfl⟩, rfl, rfl, rfl⟩
  · replace h := cT h c
    refine And.intro (fun c => absurd c (by decide)) (fun _ => ?_)
    refine And.intro (fun _ => ?_) (fun c => absurd c (by decide))
    refine And.intro (fun c => absurd c (by decide)) (fun _ => ?_)
    refine And.intro (fun c => absurd c (by decide)) (fun _ => ?_)
    refine And.intro (fun _ => ?_) (fun c => absurd c (by decide))
    replace h := Option.some.inj h
    subst h
    exact ⟨[.p (B true)], [], ⟨[], ⟨rfl, trivial⟩, trivial, rfl⟩, rfl, rfl, rfl⟩
def m_impl_nameOK_j2 : Option Bool :=
  some true
def m_impl_nameOK_l3 (n : Nat) (a24 : ByteArray) : Nat → Int → Option Bool
  | 0, _ => none
  | k3 + 1, v70 =>
    bif (decide (v70 < (a24.size : Int))) then (
      gp (0 ≤ v70 ∧ v70 < (a24.size : Int)) <|
      (m_impl_inName n (bt a24 v70)).bind fun r87 =>
      bif (!r87) then (
        some false)
      else (
        (m_impl_nameOK_l3 n a24 k3) (wr .i64 (v70 + 1))))
    else (
      m_impl_nameOK_j2)
def m_impl_nameOK (n : Nat) (a24 : ByteArray) : Option Bool :=
  bif (decide ((a24.size : Int) < 1)) then (
    some false)
  else (
    bif (decide ((a24.size : Int) > 24)) then (
      some false)
    else (
      gp (0 ≤ (0 : Int) ∧ (0 : Int) < (a24.size : Int)) <|
      (m_impl_isLetter n (bt a24 0)).bind fun r81 =>
      bif (!r81) then (
        some false)
      else (
        m_impl_nameOK_l3 n a24 n 0)))
theorem c_impl_nameOK (n : Nat) (a24 : ByteArray) (r : Bool) (h : m_impl_nameOK n a24 = some r) : FnP Try.prog 80 [S a24] [B r] := by
  unfold m_impl_nameOK at h
  refine fn_introJ Try.func80 rfl rfl rfl ?_
  refine .inl ?_
  refine .inl ?_
  refine .inl ?_
  refine And.intro (fun c => ?_) (fun c => ?_)
  · replace h := cF h c
    refine And.intro (fun _ => ?_) (fun c => absurd c (by decide))
    refine And.intro (fun _ => ?_) (fun c => absurd c (by decide))
    refine And.intro (fun c => absurd c (by decide)) (fun _ => ?_)
    refine And.intro (fun c => ?_) (fun c => ?_)
    · replace h := cF h c
      refine And.intro (fun _ => ?_) (fun c => absurd c (by decide))
      obtain ⟨g8, h⟩ := gpT h
      refine And.intro g8 ?_
      refine And.intro (fun _ => ?_) (fun c => absurd c (by decide))
      obtain ⟨r81, hr81, h⟩ := bsm h
      refine callA (c_impl_isLetter n (bt a24 0) _ hr81) ?_
      refine And.intro (fun _ => ?_) (fun c => absurd c (by decide))
      refine And.intro (fun c => absurd c (by decide)) (fun _ => ?_)
      refine And.intro (fun c => ?_) (fun c => ?_)
      · replace h := cT h c
        refine .inl ?_
        replace h := Option.some.inj h
        subst h
        exact ⟨[.p (B false)], [], ⟨[], ⟨rfl, trivial⟩, trivial, rfl⟩, rfl, rfl, rfl⟩
      · replace h := cF h c
        refine .inr ⟨Unit, fun x => ([], []), fun x => m_impl_nameOK_j2 = some r, ?_, ?_⟩
        · refine .inl ?_
          refine ⟨Int, fun x => ([(0, .p (S a24)), (3, .p (I x))], []), fun x k => m_impl_nameOK_l3 n a24 k x = some r, ⟨0, n, h, [], ⟨rfl, rfl, trivial⟩, trivial, rfl⟩, ?_⟩
          rintro v70 (_ | k3) h
          · exact ns h
          unfold m_impl_nameOK_l3 at h
          refine .inl ?_
          refine .inl ?_
          refine And.intro (fun c => ?_) (fun c => ?_)
          · replace h := cT h c
            refine .inl ?_
            refine .inl ?_
            obtain ⟨g7, h⟩ := gpT h
            refine And.intro g7 ?_
            obtain ⟨r87, hr87, h⟩ := bsm h
            refine callA (c_impl_inName n (bt a24 v70) _ hr87) ?_
            refine And.intro (fun c => ?_) (fun c => ?_)
            · replace h := cT h c
              refine .inl ?_
              replace h := Option.some.inj h
              subst h
              exact ⟨[.p (B false)], [], ⟨[], ⟨rfl, trivial⟩, trivial, rfl⟩, rfl, rfl, rfl⟩
            · replace h := cF h c
              exact ⟨(wr .i64 (v70 + 1)), k3, h, Nat.lt_succ_self _, [], ⟨rfl, rfl, trivial⟩, trivial, rfl⟩
          · replace h := cF h c
            exact ⟨(), h, [], trivial, trivial, rfl⟩
        · rintro _ h
          unfold m_impl_nameOK_j2 at h
          refine .inl ?_
          replace h := Option.some.inj h
          subst h
          exact ⟨[.p (B true)], [], ⟨[], ⟨rfl, trivial⟩, trivial, rfl⟩, rfl, rfl, rfl⟩
    · replace h := cT h c
      refine And.intro (fun c => absurd c (by decide)) (fun _ => ?_)
      refine And.intro (fun c => absurd c (by decide)) (fun _ => ?_)
      refine And.intro (fun c => absurd c (by decide)) (fun _ => ?_)
      refine And.intro (fun _ => ?_) (fun c => absurd c (by decide))
      refine And.intro (fun _ => ?_) (fun c => absurd c (by decide))
      refine .inl ?_
      replace h := Option.some.inj h
      subst h
      exact ⟨[.p (B false)], [], ⟨[], ⟨rfl, trivial⟩, trivial, rfl⟩, rfl, rfl, rfl⟩
  · replace h := cT h c
    refine And.intro (fun c => absurd c (by decide)) (fun _ => ?_)
    refine And.intro (fun c => absurd c (by decide)) (fun _ => ?_)
    refine And.intro (fun _ => ?_) (fun c => absurd c (by decide))
    refine And.intro (fun c => absurd c (by decide)) (fun _ => ?_)
    refine And.intro (fun c => absurd c (by decide)) (fun _ => ?_)
    refine And.intro (fun c => absurd c (by decide)) (fun _ => ?_)
    refine And.intro (fun c => absurd c (by decide)) (fun _ => ?_)
    refine And.intro (fun _ => ?_) (fun c => absurd c (by decide))
    refine And.intro (fun _ => ?_) (fun c => absurd c (by decide))
    refine .inl ?_
    replace h := Option.some.inj h
    subst h
    exact ⟨[.p (B false)], [], ⟨[], ⟨rfl, trivial⟩, trivial, rfl⟩, rfl, rfl, rfl⟩
def m_impl_isVar (n : Nat) (a25 : Tree) : Option Bool :=
  bif a25.lf then (
    some (decide (a25.nm = ⟨#[86, 97, 114]⟩)))
  else (
    some false)
theorem c_impl_isVar (n : Nat) (a25 : Tree) (r : Bool) (h : m_impl_isVar n a25 = some r) : FnP Try.prog 154 [a25.enc] [B r] := by
  unfold m_impl_isVar at h
  refine fn_introJ Try.func154 rfl rfl rfl ?_
  refine .inl ?_
  refine .inl ?_
  refine And.intro (fun c => ?_) (fun c => ?_)
  · replace h := cT h c
    refine And.intro (fun _ => ?_) (fun c => absurd c (by decide))
    refine And.intro (fun _ => ?_) (fun c => absurd c (by decide))
    refine And.intro (fun _ => ?_) (fun c => absurd c (by decide))
    replace h := Option.some.inj h
    subst h
    exact ⟨[.p (B (decide (a25.nm = ⟨#[86, 97, 114]⟩)))], [], ⟨[], ⟨rfl, trivial⟩, trivial, rfl⟩, rfl, rfl, rfl⟩
  · replace h := cF h c
    refine And.intro (fun c => absurd c (by decide)) (fun _ => ?_)
    refine And.intro (fun c => absurd c (by decide)) (fun _ => ?_)
    refine And.intro (fun c => absurd c (by decide)) (fun _ => ?_)
    replace h := Option.some.inj h
    subst h
    exact ⟨[.p (B false)], [], ⟨[], ⟨rfl, trivial⟩, trivial, rfl⟩, rfl, rfl, rfl⟩
def m_impl_varsOK_j2 : Option Bool :=
  some true
def m_impl_varsOK_l3 (self_impl_varsOK : Tree → Option Bool) (a26 : Tree) : Nat → Int → Option Bool
  | 0, _ => none
  | k3 + 1, v74 =>
    bif (decide (v74 < ((encM a26.ks).length : Int))) then (
      (ix a26.ks v74).bind fun x104 =>
      (self_impl_varsOK x104).bind fun r95 =>
      bif (!r95) then (
        some false)
      else (
        (m_impl_varsOK_l3 self_impl_varsOK a26 k3) (wr .i64 (v74 + 1))))
    else (
      m_impl_varsOK_j2)
def m_impl_varsOK : Nat → Tree → Option Bool
  | 0, _ => none
  | n + 1, a26 =>
    (m_impl_isVar n a26).bind fun r88 =>
    bif r88 then (
      (m_impl_nameOK n a26.tx).bind fun r89 =>
      some r89)
    else (
      m_impl_varsOK_l3 (m_impl_varsOK n) a26 n 0)
theorem c_impl_varsOK : ∀ (n : Nat) (a26 : Tree) (r : Bool) (h : m_impl_varsOK n a26 = some r), FnP Try.prog 153 [a26.enc] [B r]
  | 0, _, r, h => ns h
  | n + 1, a26, r, h => by
    have ih_impl_varsOK := c_impl_varsOK n
    unfold m_impl_varsOK at h
    refine fn_introJ Try.func153 rfl rfl rfl ?_
    refine .inl ?_
    refine .inl ?_
    refine .inl ?_
    obtain ⟨r88, hr88, h⟩ := bsm h
    refine callA (c_impl_isVar n a26 _ hr88) ?_
    refine And.intro (fun c => ?_) (fun c => ?_)
    · replace h := cT h c
      refine .inl ?_
      obtain ⟨r89, hr89, h⟩ := bsm h
      refine callA (c_impl_nameOK n a26.tx _ hr89) ?_
      replace h := Option.some.inj h
      subst h
      exact ⟨[.p (B r89)], [], ⟨[], ⟨rfl, trivial⟩, trivial, rfl⟩, rfl, rfl, rfl⟩
    · replace h := cF h c
      refine .inr ⟨Unit, fun x => ([], []), fun x => m_impl_varsOK_j2 = some r, ?_, ?_⟩
      · refine .inl ?_
        refine ⟨Int, fun x => ([(11, .p (.lst (encM a26.ks))), (12, .p (I ((encM a26.ks).length : Int))), (13, .p (I x))], []), fun x k => m_impl_varsOK_l3 (m_impl_varsOK n) a26 k x = some r, ⟨0, n, h, [], ⟨rfl, rfl, rfl, trivial⟩, trivial, rfl⟩, ?_⟩
        rintro v74 (_ | k3) h
        · exact ns h
        unfold m_impl_varsOK_l3 at h
        refine .inl ?_
        refine .inl ?_
        refine And.intro (fun c => ?_) (fun c => ?_)
        · replace h := cT h c
          refine .inl ?_
          refine .inl ?_
          obtain ⟨x104, hx104, h⟩ := bsm h
          refine And.intro (ix0 hx104) (Exists.intro _ (And.intro (encM_get (ixg hx104)) (And.intro rfl ?_)))
          refine .inl ?_
          obtain ⟨r95, hr95, h⟩ := bsm h
          refine callA (ih_impl_varsOK x104 _ hr95) ?_
          refine And.intro (fun c => ?_) (fun c => ?_)
          · replace h := cT h c
            refine .inl ?_
            replace h := Option.some.inj h
            subst h
            exact ⟨[.p (B false)], [], ⟨[], ⟨rfl, trivial⟩, trivial, rfl⟩, rfl, rfl, rfl⟩
          · replace h := cF h c
            exact ⟨(wr .i64 (v74 + 1)), k3, h, Nat.lt_succ_self _, [], ⟨rfl, rfl, rfl, trivial⟩, trivial, rfl⟩
        · replace h := cF h c
          exact ⟨(), h, [], trivial, trivial, rfl⟩
      · rintro _ h
        unfold m_impl_varsOK_j2 at h
        refine .inl ?_
        replace h := Option.some.inj h
        subst h
        exact ⟨[.p (B true)], [], ⟨[], ⟨rfl, trivial⟩, trivial, rfl⟩, rfl, rfl, rfl⟩
def m_impl_patternTree (n : Nat) (a27 : Tree) : Option Bool :=
  (m_impl_TreeOK n a27).bind fun r96 =>
  bif r96 then (
    (m_impl_varsOK n a27).bind fun r97 =>
    some r97)
  else (
    some false)
theorem c_impl_patternTree (n : Nat) (a27 : Tree) (r : Bool) (h : m_impl_patternTree n a27 = some r) : FnP Try.prog 66 [a27.enc] [B r] := by
  unfold m_impl_patternTree at h
  refine fn_introJ Try.func66 rfl rfl rfl ?_
  refine .inl ?_
  refine .inl ?_
  obtain ⟨r96, hr96, h⟩ := bsm h
  refine callA (c_impl_TreeOK n a27 _ hr96) ?_
  refine And.intro (fun c => ?_) (fun c => ?_)
  · replace h := cT h c
    refine And.intro (fun _ => ?_) (fun c => absurd c (by decide))
    obtain ⟨r97, hr97, h⟩ := bsm h
    refine callA (c_impl_varsOK n a27 _ hr97) ?_
    refine And.intro (fun _ => ?_) (fun c => absurd c (by decide))
    replace h := Option.some.inj h
    subst h
    exact ⟨[.p (B r97)], [], ⟨[], ⟨rfl, trivial⟩, trivial, rfl⟩, rfl, rfl, rfl⟩
  · replace h := cF h c
    refine And.intro (fun c => absurd c (by decide)) (fun _ => ?_)
    refine And.intro (fun c => absurd c (by decide)) (fun _ => ?_)
    replace h := Option.some.inj h
    subst h
    exact ⟨[.p (B false)], [], ⟨[], ⟨rfl, trivial⟩, trivial, rfl⟩, rfl, rfl, rfl⟩
def m_impl_bound_j2 : Option (Tree × Bool) :=
  some ((Tree.mk ⟨#[]⟩ ⟨#[]⟩ false []), false)
def m_impl_bound_l3 (a28 : List gBind) (a29 : ByteArray) : Nat → Int → Option (Tree × Bool)
  | 0, _ => none
  | k3 + 1, v78 =>
    bif (decide (v78 < ((a28.map gBind.enc).length : Int))) then (
      (ix a28 v78).bind fun x110 =>
      bif (decide (x110.name_ = a29)) then (
        some (x110.tree_, true))
      else (
        (m_impl_bound_l3 a28 a29 k3) (wr .i64 (v78 + 1))))
    else (
      m_impl_bound_j2)
def m_impl_bound (n : Nat) (a28 : List gBind) (a29 : ByteArray) : Option (Tree × Bool) :=
  m_impl_bound_l3 a28 a29 n 0
theorem c_impl_bound (n : Nat) (a28 : List gBind) (a29 : ByteArray) (r : Tree × Bool) (h : m_impl_bound n a28 a29 = some r) : FnP Try.prog 155 [.lst (a28.map gBind.enc), S a29] [r.1.enc, B r.2] := by
  unfold m_impl_bound at h
  refine fn_introJ Try.func155 rfl rfl rfl ?_
  refine .inl ?_
  refine .inr ⟨Unit, fun x => ([(4, .ptr 0 0)], [.box 31 [.p (S ⟨#[]⟩), .p (S ⟨#[]⟩), .p (B false), .tl []]]), fun x => m_impl_bound_j2 = some r, ?_, ?_⟩
  · refine .inl ?_
    refine ⟨Int, fun x => ([(1, .p (S a29)), (4, .ptr 0 0), (8, .p (.lst (a28.map gBind.enc))), (9, .p (I ((a28.map gBind.enc).length : Int))), (10, .p (I x))], [.box 31 [.p (S ⟨#[]⟩), .p (S ⟨#[]⟩), .p (B false), .tl []]]), fun x k => m_impl_bound_l3 a28 a29 k x = some r, ⟨0, n, h, [], ⟨rfl, rfl, rfl, rfl, rfl, trivial⟩, ⟨⟨rfl, rfl, rfl, rfl, rfl, trivial⟩, trivial⟩, rfl⟩, ?_⟩
    rintro v78 (_ | k3) h
    · exact ns h
    unfold m_impl_bound_l3 at h
    refine .inl ?_
    refine .inl ?_
    refine And.intro (fun c => ?_) (fun c => ?_)
    · replace h := cT h c
      refine .inl ?_
      refine .inl ?_
      obtain ⟨x110, hx110, h⟩ := bsm h
      refine And.intro (ix0 hx110) (Exists.intro _ (And.intro (gm (ixg hx110)) (And.intro rfl ?_)))
      refine .inl ?_
      refine And.intro (fun c => ?_) (fun c => ?_)
      · replace h := cT h c
        refine .inl ?_
        replace h := Option.some.inj h
        subst h
        exact ⟨[.p (x110.tree_.enc), .p (B true)], [], ⟨[], ⟨rfl, rfl, trivial⟩, trivial, rfl⟩, rfl, rfl, rfl⟩
      · replace h := cF h c
        exact ⟨(wr .i64 (v78 + 1)), k3, h, Nat.lt_succ_self _, [], ⟨rfl, rfl, rfl, rfl, rfl, trivial⟩, ⟨⟨rfl, rfl, rfl, rfl, rfl, trivial⟩, trivial⟩, rfl⟩
    · replace h := cF h c
      exact ⟨(), h, [], ⟨rfl, trivial⟩, ⟨⟨rfl, rfl, rfl, rfl, rfl, trivial⟩, trivial⟩, rfl⟩
  · rintro _ h
    unfold m_impl_bound_j2 at h
    refine .inl ?_
    refine .inl ?_
    replace h := Option.some.inj h
    subst h
    exact ⟨[.p ((Tree.mk ⟨#[]⟩ ⟨#[]⟩ false []).enc), .p (B false)], [], ⟨[], ⟨rfl, rfl, trivial⟩, trivial, rfl⟩, rfl, rfl, rfl⟩
def m_impl_same_j2 : Option Bool :=
  some true
def m_impl_same_l3 (self_impl_same : Tree → Tree → Option Bool) (a30 : Tree) (a31 : Tree) : Nat → Int → Option Bool
  | 0, _ => none
  | k3 + 1, v82 =>
    bif (decide (v82 < ((encM a30.ks).length : Int))) then (
      (ix a30.ks v82).bind fun x133 =>
      (ix a31.ks v82).bind fun x134 =>
      (self_impl_same x133 x134).bind fun r109 =>
      bif (!r109) then (
        some false)
      else (
        (m_impl_same_l3 self_impl_same a30 a31 k3) (wr .i64 (v82 + 1))))
    else (
      m_impl_same_j2)
def m_impl_same : Nat → Tree → Tree → Option Bool
  | 0, _, _ => none
  | n + 1, a30, a31 =>
    bif (!decide (a30.nm = a31.nm)) then (
      some false)
    else (
      bif (!decide (a30.tx = a31.tx)) then (
        some false)
      else (
        bif (xor true (a30.lf == a31.lf)) then (
          some false)
        else (
          bif (((encM a30.ks).length : Int) != ((encM a31.ks).length : Int)) then (
            some false)
          else (
            m_impl_same_l3 (m_impl_same n) a30 a31 n 0))))
theorem c_impl_same : ∀ (n : Nat) (a30 : Tree) (a31 : Tree) (r : Bool) (h : m_impl_same n a30 a31 = some r), FnP Try.prog 156 [a30.enc, a31.enc] [B r]
  | 0, _, _, r, h => ns h
  | n + 1, a30, a31, r, h => by
    have ih_impl_same := c_impl_same n
    unfold m_impl_same at h
    refine fn_introJ Try.func156 rfl rfl rfl ?_
    refine .inl ?_
    refine .inl ?_
    refine .inl ?_
    refine And.intro (fun c => ?_) (fun c => ?_)
    · replace h := cF h c
      refine And.intro (fun _ => ?_) (fun c => absurd c (by decide))
      refine And.intro (fun _ => ?_) (fun c => absurd c (by decide))
      refine And.intro (fun _ => ?_) (fun c => absurd c (by decide))
      refine And.intro (fun _ => ?_) (fun c => absurd c (by decide))
      refine And.intro (fun c => absurd c (by decide)) (fun _ => ?_)
      refine And.intro (fun c => ?_) (fun c => ?_)
      · replace h := cF h c
        refine And.intro (fun _ => ?_) (fun c => absurd c (by decide))
        refine And.intro (fun _ => ?_) (fun c => absurd c (by decide))
        refine And.intro (fun _ => ?_) (fun c => absurd c (by decide))
        refine And.intro (fun _ => ?_) (fun c => absurd c (by decide))
        refine And.intro (fun c => absurd c (by decide)) (fun _ => ?_)
        refine And.intro (fun c => ?_) (fun c => ?_)
        · replace h := cF h c
          refine And.intro (fun _ => ?_) (fun c => absurd c (by decide))
          refine And.intro (fun _ => ?_) (fun c => absurd c (by decide))
          refine And.intro (fun _ => ?_) (fun c => absurd c (by decide))
          refine And.intro (fun _ => ?_) (fun c => absurd c (by decide))
          refine And.intro (fun _ => ?_) (fun c => absurd c (by decide))
          refine And.intro (fun _ => ?_) (fun c => absurd c (by decide))
          refine And.intro (fun c => absurd c (by decide)) (fun _ => ?_)
          refine And.intro (fun c => ?_) (fun c => ?_)
          · replace h := cT h c
            refine .inl ?_
            replace h := Option.some.inj h
            subst h
            exact ⟨[.p (B false)], [], ⟨[], ⟨rfl, trivial⟩, trivial, rfl⟩, rfl, rfl, rfl⟩
          · replace h := cF h c
            refine .inr ⟨Unit, fun x => ([], []), fun x => m_impl_same_j2 = some r, ?_, ?_⟩
            · refine .inl ?_
              refine ⟨Int, fun x => ([(2, .ptr 0 0), (3, .ptr 1 0), (36, .p (I ((encM a30.ks).length : Int))), (37, .p (I x))], [.box 31 [.p (S a30.nm), .p (S a30.tx), .p (B a30.lf), .p (.lst (encM a30.ks))], .box 31 [.p (S a31.nm), .p (S a31.tx), .p (B a31.lf), .p (.lst (encM a31.ks))]]), fun x k => m_impl_same_l3 (m_impl_same n) a30 a31 k x = some r, ⟨0, n, h, [], ⟨rfl, rfl, rfl, rfl, trivial⟩, ⟨⟨rfl, rfl, rfl, rfl, rfl, trivial⟩, ⟨rfl, rfl, rfl, rfl, rfl, trivial⟩, trivial⟩, rfl⟩, ?_⟩
              rintro v82 (_ | k3) h
              · exact ns h
              unfold m_impl_same_l3 at h
              refine .inl ?_
              refine .inl ?_
              refine And.intro (fun c => ?_) (fun c => ?_)
              · replace h := cT h c
                refine .inl ?_
                refine .inl ?_
                refine .inl ?_
                refine ⟨[0, 1, 2, 3, 4, 5, 6, 7, 8, 9, 10, 11], [], by decide +kernel, ?_⟩
                obtain ⟨x133, hx133, h⟩ := bsm h
                refine And.intro (ix0 hx133) (Exists.intro _ (And.intro (encM_get (ixg hx133)) (And.intro rfl ?_)))
                obtain ⟨x134, hx134, h⟩ := bsm h
                refine And.intro (ix0 hx134) (Exists.intro _ (And.intro (encM_get (ixg hx134)) (And.intro rfl ?_)))
                obtain ⟨r109, hr109, h⟩ := bsm h
                refine callA (ih_impl_same x133 x134 _ hr109) ?_
                refine And.intro (fun c => ?_) (fun c => ?_)
                · replace h := cT h c
                  refine .inl ?_
                  replace h := Option.some.inj h
                  subst h
                  exact ⟨[.p (B false)], [], ⟨[], ⟨rfl, trivial⟩, trivial, rfl⟩, rfl, rfl, rfl⟩
                · replace h := cF h c
                  exact ⟨(wr .i64 (v82 + 1)), k3, h, Nat.lt_succ_self _, [], ⟨rfl, rfl, rfl, rfl, trivial⟩, ⟨⟨rfl, rfl, rfl, rfl, rfl, trivial⟩, ⟨rfl, rfl, rfl, rfl, rfl, trivial⟩, trivial⟩, rfl⟩
              · replace h := cF h c
                exact ⟨(), h, [], trivial, trivial, rfl⟩
            · rintro _ h
              unfold m_impl_same_j2 at h
              refine .inl ?_
              replace h := Option.some.inj h
              subst h
              exact ⟨[.p (B true)], [], ⟨[], ⟨rfl, trivial⟩, trivial, rfl⟩, rfl, rfl, rfl⟩
        · replace h := cT h c
          refine And.intro (fun c => absurd c (by decide)) (fun _ => ?_)
          refine And.intro (fun c => absurd c (by decide)) (fun _ => ?_)
          refine And.intro (fun c => absurd c (by decide)) (fun _ => ?_)
          refine And.intro (fun c => absurd c (by decide)) (fun _ => ?_)
          refine And.intro (fun c => absurd c (by decide)) (fun _ => ?_)
          refine And.intro (fun c => absurd c (by decide)) (fun _ => ?_)
          refine And.intro (fun _ => ?_) (fun c => absurd c (by decide))
          refine And.intro (fun _ => ?_) (fun c => absurd c (by decide))
          refine .inl ?_
          replace h := Option.some.inj h
          subst h
          exact ⟨[.p (B false)], [], ⟨[], ⟨rfl, trivial⟩, trivial, rfl⟩, rfl, rfl, rfl⟩
      · replace h := cT h c
        refine And.intro (fun c => absurd c (by decide)) (fun _ => ?_)
        refine And.intro (fun c => absurd c (by decide)) (fun _ => ?_)
        refine And.intro (fun c => absurd c (by decide)) (fun _ => ?_)
        refine And.intro (fun c => absurd c (by decide)) (fun _ => ?_)
        refine And.intro (fun _ => ?_) (fun c => absurd c (by decide))
        refine And.intro (fun c => absurd c (by decide)) (fun _ => ?_)
        refine And.intro (fun c => absurd c (by decide)) (fun _ => ?_)
        refine And.intro (fun c => absurd c (by decide)) (fun _ => ?_)
        refine And.intro (fun c => absurd c (by decide)) (fun _ => ?_)
        refine And.intro (fun c => absurd c (by decide)) (fun _ => ?_)
        refine And.intro (fun c => absurd c (by decide)) (fun _ => ?_)
        refine And.intro (fun c => absurd c (by decide)) (fun _ => ?_)
        refine And.intro (fun _ => ?_) (fun c => absurd c (by decide))
        refine And.intro (fun _ => ?_) (fun c => absurd c (by decide))
        refine .inl ?_
        replace h := Option.some.inj h
        subst h
        exact ⟨[.p (B false)], [], ⟨[], ⟨rfl, trivial⟩, trivial, rfl⟩, rfl, rfl, rfl⟩
    · replace h := cT h c
      refine And.intro (fun c => absurd c (by decide)) (fun _ => ?_)
      refine And.intro (fun c => absurd c (by decide)) (fun _ => ?_)
      refine And.intro (fun c => absurd c (by decide)) (fun _ => ?_)
      refine And.intro (fun c => absurd c (by decide)) (fun _ => ?_)
      refine And.intro (fun _ => ?_) (fun c => absurd c (by decide))
      refine And.intro (fun c => absurd c (by decide)) (fun _ => ?_)
      refine And.intro (fun c => absurd c (by decide)) (fun _ => ?_)
      refine And.intro (fun c => absurd c (by decide)) (fun _ => ?_)
      refine And.intro (fun c => absurd c (by decide)) (fun _ => ?_)
      refine And.intro (fun c => absurd c (by decide)) (fun _ => ?_)
      refine And.intro (fun _ => ?_) (fun c => absurd c (by decide))
      refine And.intro (fun c => absurd c (by decide)) (fun _ => ?_)
      refine And.intro (fun c => absurd c (by decide)) (fun _ => ?_)
      refine And.intro (fun c => absurd c (by decide)) (fun _ => ?_)
      refine And.intro (fun c => absurd c (by decide)) (fun _ => ?_)
      refine And.intro (fun c => absurd c (by decide)) (fun _ => ?_)
      refine And.intro (fun c => absurd c (by decide)) (fun _ => ?_)
      refine And.intro (fun c => absurd c (by decide)) (fun _ => ?_)
      refine And.intro (fun _ => ?_) (fun c => absurd c (by decide))
      refine And.intro (fun _ => ?_) (fun c => absurd c (by decide))
      refine .inl ?_
      replace h := Option.some.inj h
      subst h
      exact ⟨[.p (B false)], [], ⟨[], ⟨rfl, trivial⟩, trivial, rfl⟩, rfl, rfl, rfl⟩
def m_impl_bound_v0_j2 : Option (Tree × Bool) :=
  some ((Tree.mk ⟨#[]⟩ ⟨#[]⟩ false []), false)
def m_impl_bound_v0_l3 (a35 : List gBind) (a36 : ByteArray) : Nat → Int → Option (Tree × Bool)
  | 0, _ => none
  | k3 + 1, v86 =>
    bif (decide (v86 < ((a35.length : Nat) : Int))) then (
      (ix a35 v86).bind fun x140 =>
      bif (decide (x140.name_ = a36)) then (
        some (x140.tree_, true))
      else (
        (m_impl_bound_v0_l3 a35 a36 k3) (wr .i64 (v86 + 1))))
    else (
      m_impl_bound_v0_j2)
def m_impl_bound_v0 (n : Nat) (a35 : List gBind) (a36 : ByteArray) : Option (Tree × Bool) :=
  m_impl_bound_v0_l3 a35 a36 n 0
theorem c_impl_bound_v0 (n : Nat) (a35 : List gBind) (a36 : ByteArray) (r : Tree × Bool) (h : m_impl_bound_v0 n a35 a36 = some r) : Sy.Fn Try.prog 155 [.row 0 5 0 a35.length, .p (S a36)] [.lend 100 5 (a35.map gBind.enc)] (fun rs τ' => rs = [.p (r.1.enc), .p (B r.2)] ∧ τ' = [.lend 100 5 (a35.map gBind.enc)]) := by
  unfold m_impl_bound_v0 at h
  refine fn_introJ Try.func155 rfl rfl rfl ?_
  refine .inl ?_
  refine .inr ⟨Unit, fun x => ([(4, .ptr 1 0)], [.lend 100 5 (a35.map gBind.enc), .box 31 [.p (S ⟨#[]⟩), .p (S ⟨#[]⟩), .p (B false), .tl []]]), fun x => m_impl_bound_v0_j2 = some r, ?_, ?_⟩
  · refine .inl ?_
    refine ⟨Int, fun x => ([(1, .p (S a36)), (4, .ptr 1 0), (8, .row 0 5 0 a35.length), (9, .p (I ((a35.length : Nat) : Int))), (10, .p (I x))], [.lend 100 5 (a35.map gBind.enc), .box 31 [.p (S ⟨#[]⟩), .p (S ⟨#[]⟩), .p (B false), .tl []]]), fun x k => m_impl_bound_v0_l3 a35 a36 k x = some r, ⟨0, n, h, [], ⟨rfl, rfl, rfl, rfl, rfl, trivial⟩, ⟨rfl, ⟨rfl, rfl, rfl, rfl, rfl, trivial⟩, trivial⟩, rfl⟩, ?_⟩
    rintro v86 (_ | k3) h
    · exact ns h
    unfold m_impl_bound_v0_l3 at h
    refine .inl ?_
    refine .inl ?_
    refine And.intro (fun c => ?_) (fun c => ?_)
    · replace h := cT h c
      refine .inl ?_
      refine .inl ?_
      obtain ⟨x140, hx140, h⟩ := bsm h
      refine And.intro (ixr hx140) ?_
      refine Exists.intro _ (And.intro (gz (gm (ixg hx140))) ?_)
      refine .inl ?_
      refine And.intro (fun c => ?_) (fun c => ?_)
      · replace h := cT h c
        refine .inl ?_
        replace h := Option.some.inj h
        subst h
        exact ⟨[.p (x140.tree_.enc), .p (B true)], [.lend 100 5 (a35.map gBind.enc)], ⟨[], ⟨rfl, rfl, trivial⟩, ⟨rfl, trivial⟩, rfl⟩, rfl, rfl, rfl⟩
      · replace h := cF h c
        exact ⟨(wr .i64 (v86 + 1)), k3, h, Nat.lt_succ_self _, [], ⟨rfl, rfl, rfl, rfl, rfl, trivial⟩, ⟨rfl, ⟨rfl, rfl, rfl, rfl, rfl, trivial⟩, trivial⟩, rfl⟩
    · replace h := cF h c
      exact ⟨(), h, [], ⟨rfl, trivial⟩, ⟨rfl, ⟨rfl, rfl, rfl, rfl, rfl, trivial⟩, trivial⟩, rfl⟩
  · rintro _ h
    unfold m_impl_bound_v0_j2 at h
    refine .inl ?_
    refine .inl ?_
    replace h := Option.some.inj h
    subst h
    exact ⟨[.p ((Tree.mk ⟨#[]⟩ ⟨#[]⟩ false []).enc), .p (B false)], [.lend 100 5 (a35.map gBind.enc)], ⟨[], ⟨rfl, rfl, trivial⟩, ⟨rfl, trivial⟩, rfl⟩, rfl, rfl, rfl⟩
def m_impl_match_j4 (v94 : List gBind) : Option (List gBind × Bool) :=
  some (v94, true)
def m_impl_match_l5 (self_impl_match : Tree → Tree → List gBind → Option (List gBind × Bool)) (a32 : Tree) (a33 : Tree) : Nat → Int → List gBind → Option (List gBind × Bool)
  | 0, _, _ => none
  | k5 + 1, v95, v96 =>
    bif (decide (v95 < ((encM a32.ks).length : Int))) then (
      (ix a32.ks v95).bind fun x163 =>
      (ix a33.ks v95).bind fun x164 =>
      (self_impl_match x163 x164 v96).bind fun r124 =>
      bif (!r124.2) then (
        some (r124.1, false))
      else (
        (m_impl_match_l5 self_impl_match a32 a33 k5) (wr .i64 (v95 + 1)) r124.1))
    else (
      m_impl_match_j4 v96)
def m_impl_match_j2 (self_impl_match : Tree → Tree → List gBind → Option (List gBind × Bool)) (n : Nat) (a32 : Tree) (a33 : Tree) (a34 : List gBind) (v89 : Bool) : Option (List gBind × Bool) :=
  bif v89 then (
    some (a34, false))
  else (
    m_impl_match_l5 self_impl_match a32 a33 n 0 a34)
def m_impl_match : Nat → Tree → Tree → List gBind → Option (List gBind × Bool)
  | 0, _, _, _ => none
  | n + 1, a32, a33, a34 =>
    (m_impl_isVar n a32).bind fun r110 =>
    bif r110 then (
      (m_impl_bound_v0 n a34 a32.tx).bind fun r111 =>
      bif r111.2 then (
        (m_impl_same n r111.1 a33).bind fun r112 =>
        some (a34, r112))
      else (
        gp (a34.length + ([(gBind.mk a32.tx a33)] : List gBind).length ≤ 68719476736) <|
        some ((a34 ++ [(gBind.mk a32.tx a33)]), true)))
    else (
      bif (!decide (a32.nm = a33.nm)) then (
        m_impl_match_j2 (m_impl_match n) n a32 a33 a34 true)
      else (
        bif (!decide (a32.tx = a33.tx)) then (
          m_impl_match_j2 (m_impl_match n) n a32 a33 a34 true)
        else (
          bif (xor true (a32.lf == a33.lf)) then (
            m_impl_match_j2 (m_impl_match n) n a32 a33 a34 true)
          else (
            m_impl_match_j2 (m_impl_match n) n a32 a33 a34 (((encM a32.ks).length : Int) != ((encM a33.ks).length : Int))))))
theorem c_impl_match : ∀ (n : Nat) (a32 : Tree) (a33 : Tree) (a34 : List gBind) (r : List gBind × Bool) (h : m_impl_match n a32 a33 a34 = some r), Sy.Fn Try.prog 68 [.p (a32.enc), .p (a33.enc), .row 0 5 0 a34.length] [.row 100 5 (a34.map gBind.enc)] (fun rs τ' => rs = [.row 0 5 0 r.1.length, .p (B r.2)] ∧ τ' = [.row 100 5 (r.1.map gBind.enc)])
  | 0, _, _, _, r, h => ns h
  | n + 1, a32, a33, a34, r, h => by
    have ih_impl_match := c_impl_match n
    unfold m_impl_match at h
    refine fn_introJ Try.func68 rfl rfl rfl ?_
    refine .inl ?_
    refine .inl ?_
    refine .inl ?_
    obtain ⟨r110, hr110, h⟩ := bsm h
    refine callA (c_impl_isVar n a32 _ hr110) ?_
    refine And.intro (fun c => ?_) (fun c => ?_)
    · replace h := cT h c
      refine .inl ?_
      refine .inl ?_
      obtain ⟨r111, hr111, h⟩ := bsm h
      refine callLW (args' := [.row 0 5 0 a34.length, .p (S a32.tx)]) (τ0 := [.lend 100 5 (a34.map gBind.enc)]) [0] [0] [] (c_impl_bound_v0 n a34 a32.tx _ hr111) rfl (fun K hk => Or.inr hk) rfl ⟨rfl, rfl, trivial⟩ ⟨rfl, trivial⟩ rfl ?_
      rintro rs τ' hl' ⟨rfl, rfl⟩
      refine .inl ?_
      refine And.intro (fun c => ?_) (fun c => ?_)
      · replace h := cT h c
        refine .inl ?_
        obtain ⟨r112, hr112, h⟩ := bsm h
        refine callA (c_impl_same n r111.1 a33 _ hr112) ?_
        refine .inr ?_
        replace h := Option.some.inj h
        subst h
        exact ⟨[.row 0 5 0 a34.length, .p (B r112)], [.row 100 5 (a34.map gBind.enc)], ⟨[], ⟨rfl, rfl, trivial⟩, ⟨rfl, trivial⟩, rfl⟩, rfl, rfl, rfl⟩
      · replace h := cF h c
        refine .inl ?_
        refine And.intro (show fits _ _ from ⟨⟨rfl, rfl⟩, trivial⟩) ?_
        obtain ⟨g1, h⟩ := gpT h
        refine Exists.intro ([(gBind.mk a32.tx a33).enc]) (And.intro (rowN rfl rfl) ?_)
        refine Exists.intro (a34.map gBind.enc) (And.intro (rowX (rowN rfl (show a34.length = (a34.map gBind.enc).length by simp)) (show fits _ _ from ⟨⟨rfl, rfl⟩, trivial⟩) (appfitJ (by first | simpa using g1 | (simp at g1 ⊢; omega)) rfl)) ?_)
        refine .inr ?_
        replace h := Option.some.inj h
        subst h
        exact ⟨[.row 0 5 0 (a34 ++ [(gBind.mk a32.tx a33)]).length, .p (B true)], [.row 100 5 ((a34 ++ [(gBind.mk a32.tx a33)]).map gBind.enc)], ⟨[], ⟨(congrArg (AV.row 0 5 0) (show (a34 ++ [(gBind.mk a32.tx a33)]).length = (a34.length + ([(gBind.mk a32.tx a33).enc] : List PV).length) by simp)), rfl, trivial⟩, ⟨(congrArg (Bk.row 100 5) (show (a34 ++ [(gBind.mk a32.tx a33)]).map gBind.enc = (a34.map gBind.enc) ++ [(gBind.mk a32.tx a33).enc] by simp)), trivial⟩, rfl⟩, rfl, rfl, rfl⟩
    · replace h := cF h c
      refine .inl ?_
      refine .inr ⟨Bool, fun x => ([(2, .row 0 5 0 a34.length), (3, .ptr 1 0), (4, .ptr 2 0), (60, .p (B x))], [.row 100 5 (a34.map gBind.enc), .box 31 [.p (S a32.nm), .p (S a32.tx), .p (B a32.lf), .p (.lst (encM a32.ks))], .box 31 [.p (S a33.nm), .p (S a33.tx), .p (B a33.lf), .p (.lst (encM a33.ks))]]), fun x => m_impl_match_j2 (m_impl_match n) n a32 a33 a34 x = some r, ?_, ?_⟩
      · refine And.intro (fun c => ?_) (fun c => ?_)
        · replace h := cF h c
          refine And.intro (fun _ => ?_) (fun c => absurd c (by decide))
          refine And.intro (fun _ => ?_) (fun c => absurd c (by decide))
          refine And.intro (fun _ => ?_) (fun c => absurd c (by decide))
          refine And.intro (fun _ => ?_) (fun c => absurd c (by decide))
          refine And.intro (fun c => absurd c (by decide)) (fun _ => ?_)
          refine And.intro (fun c => ?_) (fun c => ?_)
          · replace h := cF h c
            refine And.intro (fun _ => ?_) (fun c => absurd c (by decide))
            refine And.intro (fun _ => ?_) (fun c => absurd c (by decide))
            refine And.intro (fun _ => ?_) (fun c => absurd c (by decide))
            refine And.intro (fun _ => ?_) (fun c => absurd c (by decide))
            refine And.intro (fun c => absurd c (by decide)) (fun _ => ?_)
            refine And.intro (fun c => ?_) (fun c => ?_)
            · replace h := cF h c
              refine And.intro (fun _ => ?_) (fun c => absurd c (by decide))
              refine And.intro (fun _ => ?_) (fun c => absurd c (by decide))
              refine And.intro (fun _ => ?_) (fun c => absurd c (by decide))
              refine And.intro (fun _ => ?_) (fun c => absurd c (by decide))
              refine And.intro (fun _ => ?_) (fun c => absurd c (by decide))
              refine And.intro (fun _ => ?_) (fun c => absurd c (by decide))
              refine And.intro (fun c => absurd c (by decide)) (fun _ => ?_)
              exact ⟨(((encM a32.ks).length : Int) != ((encM a33.ks).length : Int)), h, [], ⟨rfl, rfl, rfl, rfl, trivial⟩, ⟨rfl, ⟨rfl, rfl, rfl, rfl, rfl, trivial⟩, ⟨rfl, rfl, rfl, rfl, rfl, trivial⟩, trivial⟩, rfl⟩
            · replace h := cT h c
              refine And.intro (fun c => absurd c (by decide)) (fun _ => ?_)
              refine And.intro (fun c => absurd c (by decide)) (fun _ => ?_)
              refine And.intro (fun c => absurd c (by decide)) (fun _ => ?_)
              refine And.intro (fun c => absurd c (by decide)) (fun _ => ?_)
              refine And.intro (fun c => absurd c (by decide)) (fun _ => ?_)
              refine And.intro (fun c => absurd c (by decide)) (fun _ => ?_)
              refine And.intro (fun _ => ?_) (fun c => absurd c (by decide))
              exact ⟨true, h, [], ⟨rfl, rfl, rfl, rfl, trivial⟩, ⟨rfl, ⟨rfl, rfl, rfl, rfl, rfl, trivial⟩, ⟨rfl, rfl, rfl, rfl, rfl, trivial⟩, trivial⟩, rfl⟩
          · replace h := cT h c
            refine And.intro (fun c => absurd c (by decide)) (fun _ => ?_)
            refine And.intro (fun c => absurd c (by decide)) (fun _ => ?_)
            refine And.intro (fun c => absurd c (by decide)) (fun _ => ?_)
            refine And.intro (fun c => absurd c (by decide)) (fun _ => ?_)
            refine And.intro (fun _ => ?_) (fun c => absurd c (by decide))
            refine And.intro (fun c => absurd c (by decide)) (fun _ => ?_)
            refine And.intro (fun c => absurd c (by decide)) (fun _ => ?_)
            refine And.intro (fun c => absurd c (by decide)) (fun _ => ?_)
            refine And.intro (fun c => absurd c (by decide)) (fun _ => ?_)
            refine And.intro (fun c => absurd c (by decide)) (fun _ => ?_)
            refine And.intro (fun c => absurd c (by decide)) (fun _ => ?_)
            refine And.intro (fun c => absurd c (by decide)) (fun _ => ?_)
            refine And.intro (fun _ => ?_) (fun c => absurd c (by decide))
            exact ⟨true, h, [], ⟨rfl, rfl, rfl, rfl, trivial⟩, ⟨rfl, ⟨rfl, rfl, rfl, rfl, rfl, trivial⟩, ⟨rfl, rfl, rfl, rfl, rfl, trivial⟩, trivial⟩, rfl⟩
        · replace h := cT h c
          refine And.intro (fun c => absurd c (by decide)) (fun _ => ?_)
          refine And.intro (fun c => absurd c (by decide)) (fun _ => ?_)
          refine And.intro (fun c => absurd c (by decide)) (fun _ => ?_)
          refine And.intro (fun c => absurd c (by decide)) (fun _ => ?_)
          refine And.intro (fun _ => ?_) (fun c => absurd c (by decide))
          refine And.intro (fun c => absurd c (by decide)) (fun _ => ?_)
          refine And.intro (fun c => absurd c (by decide)) (fun _ => ?_)
          refine And.intro (fun c => absurd c (by decide)) (fun _ => ?_)
          refine And.intro (fun c => absurd c (by decide)) (fun _ => ?_)
          refine And.intro (fun c => absurd c (by decide)) (fun _ => ?_)
          refine And.intro (fun _ => ?_) (fun c => absurd c (by decide))
          refine And.intro (fun c => absurd c (by decide)) (fun _ => ?_)
          refine And.intro (fun c => absurd c (by decide)) (fun _ => ?_)
          refine And.intro (fun c => absurd c (by decide)) (fun _ => ?_)
          refine And.intro (fun c => absurd c (by decide)) (fun _ => ?_)
          refine And.intro (fun c => absurd c (by decide)) (fun _ => ?_)
          refine And.intro (fun c => absurd c (by decide)) (fun _ => ?_)
          refine And.intro (fun c => absurd c (by decide)) (fun _ => ?_)
          refine And.intro (fun _ => ?_) (fun c => absurd c (by decide))
          exact ⟨true, h, [], ⟨rfl, rfl, rfl, rfl, trivial⟩, ⟨rfl, ⟨rfl, rfl, rfl, rfl, rfl, trivial⟩, ⟨rfl, rfl, rfl, rfl, rfl, trivial⟩, trivial⟩, rfl⟩
      · rintro v89 h
        unfold m_impl_match_j2 at h
        refine And.intro (fun c => ?_) (fun c => ?_)
        · replace h := cT h c
          refine .inl ?_
          refine .inr ?_
          replace h := Option.some.inj h
          subst h
          exact ⟨[.row 0 5 0 a34.length, .p (B false)], [.row 100 5 (a34.map gBind.enc)], ⟨[], ⟨rfl, rfl, trivial⟩, ⟨rfl, trivial⟩, rfl⟩, rfl, rfl, rfl⟩
        · replace h := cF h c
          refine .inr ⟨List gBind, fun x => ([(2, .row 0 5 0 x.length)], [.row 100 5 (x.map gBind.enc)]), fun x => m_impl_match_j4 x = some r, ?_, ?_⟩
          · refine .inl ?_
            refine ⟨Int × List gBind, fun x => ([(2, .row 0 5 0 x.2.length), (3, .ptr 1 0), (4, .ptr 2 0), (64, .p (I ((encM a32.ks).length : Int))), (65, .p (I x.1))], [.row 100 5 (x.2.map gBind.enc), .box 31 [.p (S a32.nm), .p (S a32.tx), .p (B a32.lf), .p (.lst (encM a32.ks))], .box 31 [.p (S a33.nm), .p (S a33.tx), .p (B a33.lf), .p (.lst (encM a33.ks))]]), fun x k => m_impl_match_l5 (m_impl_match n) a32 a33 k x.1 x.2 = some r, ⟨(0, a34), n, h, [], ⟨rfl, rfl, rfl, rfl, rfl, trivial⟩, ⟨rfl, ⟨rfl, rfl, rfl, rfl, rfl, trivial⟩, ⟨rfl, rfl, rfl, rfl, rfl, trivial⟩, trivial⟩, rfl⟩, ?_⟩
            rintro ⟨v95, v96⟩ (_ | k5) h
            · exact ns h
            unfold m_impl_match_l5 at h
            refine .inl ?_
            refine .inl ?_
            refine And.intro (fun c => ?_) (fun c => ?_)
            · replace h := cT h c
              refine .inl ?_
              refine .inl ?_
              refine .inl ?_
              refine .inl ?_
              refine ⟨[0, 1, 2, 3, 4, 5, 6, 7, 8, 9, 10, 11, 12, 13, 14, 15, 16], [0], by decide +kernel, ?_⟩
              obtain ⟨x163, hx163, h⟩ := bsm h
              refine And.intro (ix0 hx163) (Exists.intro _ (And.intro (encM_get (ixg hx163)) (And.intro rfl ?_)))
              obtain ⟨x164, hx164, h⟩ := bsm h
              refine And.intro (ix0 hx164) (Exists.intro _ (And.intro (encM_get (ixg hx164)) (And.intro rfl ?_)))
              obtain ⟨r124, hr124, h⟩ := bsm h
              refine callW (args' := [.p (x163.enc), .p (x164.enc), .row 0 5 0 v96.length]) (τ0 := [.row 100 5 (v96.map gBind.enc)]) [0] [] (ih_impl_match x163 x164 v96 _ hr124) (fun K hk => Or.inr hk) rfl ⟨rfl, rfl, rfl, trivial⟩ ⟨rfl, trivial⟩ rfl ?_
              rintro rs τ' hl' ⟨rfl, rfl⟩
              refine .inl ?_
              refine And.intro (fun c => ?_) (fun c => ?_)
              · replace h := cT h c
                refine .inl ?_
                refine .inr ?_
                replace h := Option.some.inj h
                subst h
                exact ⟨[.row 0 5 0 r124.1.length, .p (B false)], [.row 100 5 (r124.1.map gBind.enc)], ⟨[], ⟨rfl, rfl, trivial⟩, ⟨rfl, trivial⟩, rfl⟩, rfl, rfl, rfl⟩
              · replace h := cF h c
                exact ⟨((wr .i64 (v95 + 1)), r124.1), k5, h, Nat.lt_succ_self _, [], ⟨rfl, rfl, rfl, rfl, rfl, trivial⟩, ⟨rfl, ⟨rfl, rfl, rfl, rfl, rfl, trivial⟩, ⟨rfl, rfl, rfl, rfl, rfl, trivial⟩, trivial⟩, rfl⟩
            · replace h := cF h c
              exact ⟨v96, h, [], ⟨rfl, trivial⟩, ⟨rfl, trivial⟩, rfl⟩
          · rintro v94 h
            unfold m_impl_match_j4 at h
            refine .inl ?_
            refine .inr ?_
            replace h := Option.some.inj h
            subst h
            exact ⟨[.row 0 5 0 v94.length, .p (B true)], [.row 100 5 (v94.map gBind.enc)], ⟨[], ⟨rfl, rfl, trivial⟩, ⟨rfl, trivial⟩, rfl⟩, rfl, rfl, rfl⟩
def m_impl_copyTree_j2 (a37 : Tree) (v103 : List Tree) : Option Tree :=
  some (Tree.mk a37.nm a37.tx a37.lf v103)
def m_impl_copyTree_l3 (self_impl_copyTree : Tree → Option Tree) (a37 : Tree) : Nat → Int → List Tree → Option Tree
  | 0, _, _ => none
  | k3 + 1, v104, v105 =>
    bif (decide (v104 < ((encM a37.ks).length : Int))) then (
      (ix a37.ks v104).bind fun x170 =>
      (self_impl_copyTree x170).bind fun r136 =>
      gp (v105.length + ([r136] : List Tree).length ≤ 68719476736) <|
      (m_impl_copyTree_l3 self_impl_copyTree a37 k3) (wr .i64 (v104 + 1)) (v105 ++ [r136]))
    else (
      m_impl_copyTree_j2 a37 v105)
def m_impl_copyTree : Nat → Tree → Option Tree
  | 0, _ => none
  | n + 1, a37 =>
    m_impl_copyTree_l3 (m_impl_copyTree n) a37 n 0 []
theorem c_impl_copyTree : ∀ (n : Nat) (a37 : Tree) (r : Tree) (h : m_impl_copyTree n a37 = some r), FnP Try.prog 69 [a37.enc] [r.enc]
  | 0, _, r, h => ns h
  | n + 1, a37, r, h => by
    have ih_impl_copyTree := c_impl_copyTree n
    unfold m_impl_copyTree at h
    refine fn_introJ Try.func69 rfl rfl rfl ?_
    refine .inl ?_
    refine .inl ?_
    refine .inr ⟨List Tree, fun x => ([(2, .ptr 0 0), (3, .ptr 1 0)], [.box 31 [.p (S ⟨#[]⟩), .p (S ⟨#[]⟩), .p (B false), .tl []], .box 31 [.p (S a37.nm), .p (S a37.tx), .p (B a37.lf), .row 2 4 0 x.length], .row 31 4 (encM x)]), fun x => m_impl_copyTree_j2 a37 x = some r, ?_, ?_⟩
    · refine .inl ?_
      refine ⟨Int × List Tree, fun x => ([(2, .ptr 0 0), (3, .ptr 1 0), (14, .p (.lst (encM a37.ks))), (15, .p (I ((encM a37.ks).length : Int))), (16, .p (I x.1))], [.box 31 [.p (S ⟨#[]⟩), .p (S ⟨#[]⟩), .p (B false), .tl []], .box 31 [.p (S a37.nm), .p (S a37.tx), .p (B a37.lf), .row 2 4 0 x.2.length], .row 31 4 (encM x.2)]), fun x k => m_impl_copyTree_l3 (m_impl_copyTree n) a37 k x.1 x.2 = some r, ⟨(0, []), n, h, [(999999, 1), (999999, 2), (31, 4)], ⟨rfl, rfl, rfl, rfl, rfl, trivial⟩, ⟨⟨rfl, rfl, rfl, rfl, rfl, trivial⟩, ⟨rfl, rfl, rfl, rfl, ⟨rfl, rfl⟩, trivial⟩, rfl, trivial⟩, rfl⟩, ?_⟩
      rintro ⟨v104, v105⟩ (_ | k3) h
      · exact ns h
      unfold m_impl_copyTree_l3 at h
      refine .inl ?_
      refine .inl ?_
      refine And.intro (fun c => ?_) (fun c => ?_)
      · replace h := cT h c
        refine .inl ?_
        refine .inl ?_
        obtain ⟨x170, hx170, h⟩ := bsm h
        refine And.intro (ix0 hx170) (Exists.intro _ (And.intro (encM_get (ixg hx170)) (And.intro rfl ?_)))
        refine ⟨[0, 1, 2, 3, 4, 5, 6, 1007], [2], by decide +kernel, ?_⟩
        obtain ⟨r136, hr136, h⟩ := bsm h
        refine callA (ih_impl_copyTree x170 _ hr136) ?_
        refine And.intro (show fits _ _ from ⟨⟨rfl, rfl⟩, trivial⟩) ?_
        obtain ⟨g12, h⟩ := gpT h
        refine Exists.intro ([r136.enc]) (And.intro (rowN rfl rfl) ?_)
        refine Exists.intro (encM v105) (And.intro (rowX (rowN rfl (show v105.length = (encM v105).length by simp)) (show fits _ _ from ⟨⟨rfl, rfl⟩, trivial⟩) (appfitJ (by first | simpa using g12 | (simp at g12 ⊢; omega)) rfl)) ?_)
        exact ⟨((wr .i64 (v104 + 1)), (v105 ++ [r136])), k3, h, Nat.lt_succ_self _, [], ⟨rfl, rfl, rfl, rfl, rfl, trivial⟩, ⟨⟨rfl, rfl, rfl, rfl, rfl, trivial⟩, ⟨rfl, rfl, rfl, rfl, (congrArg (AV.row 2 4 0) (show (v105 ++ [r136]).length = (v105.length + ([r136.enc] : List PV).length) by simp)), trivial⟩, (congrArg (Bk.row 31 4) (show encM (v105 ++ [r136]) = (encM v105) ++ [r136.enc] by simp)), trivial⟩, rfl⟩
      · replace h := cF h c
        exact ⟨v105, h, [], ⟨rfl, rfl, trivial⟩, ⟨⟨rfl, rfl, rfl, rfl, rfl, trivial⟩, ⟨rfl, rfl, rfl, rfl, rfl, trivial⟩, rfl, trivial⟩, rfl⟩
    · rintro v103 h
      unfold m_impl_copyTree_j2 at h
      refine .inl ?_
      refine .inl (Exists.intro _ (And.intro (rowN rfl (show v103.length = (encM v103).length by simp)) ?_))
      replace h := Option.some.inj h
      subst h
      exact ⟨[.p ((Tree.mk a37.nm a37.tx a37.lf v103).enc)], [], ⟨[], ⟨rfl, trivial⟩, trivial, rfl⟩, rfl, rfl, rfl⟩
def m_impl_Match_j4 (v114 : List gBind) : Option (List gBind × Bool × Int) :=
  some (v114, true, 0)
def m_impl_Match_l5 (n : Nat) (r143 : List gBind × Bool) : Nat → Int → List gBind → Option (List gBind × Bool × Int)
  | 0, _, _ => none
  | k5 + 1, v115, v116 =>
    bif (decide (v115 < ((r143.1.length : Nat) : Int))) then (
      (ix v116 v115).bind fun x181 =>
      (m_impl_copyTree n x181.tree_).bind fun r149 =>
      (ix v116 v115).bind fun x182 =>
      (m_impl_Match_l5 n r143 k5) (wr .i64 (v115 + 1)) (v116.set v115.toNat (gBind.mk x182.name_ r149)))
    else (
      m_impl_Match_j4 v116)
def m_impl_Match_j2 (n : Nat) (a38 : Tree) (a39 : Tree) (v109 : Bool) : Option (List gBind × Bool × Int) :=
  bif v109 then (
    some ([], false, 1))
  else (
    (m_impl_match n a38 a39 []).bind fun r143 =>
    bif (!r143.2) then (
      some ([], false, 0))
    else (
      m_impl_Match_l5 n r143 n 0 r143.1))
def m_impl_Match (n : Nat) (a38 : Tree) (a39 : Tree) : Option (List gBind × Bool × Int) :=
  (m_impl_patternTree n a38).bind fun r150 =>
  bif (!r150) then (
    m_impl_Match_j2 n a38 a39 true)
  else (
    (m_impl_TreeOK n a39).bind fun r151 =>
    m_impl_Match_j2 n a38 a39 (!r151))
theorem c_impl_Match (n : Nat) (a38 : Tree) (a39 : Tree) (r : List gBind × Bool × Int) (h : m_impl_Match n a38 a39 = some r) : FnP Try.prog 15 [a38.enc, a39.enc] [.lst (r.1.map gBind.enc), B r.2.1, I r.2.2] := by
  unfold m_impl_Match at h
  refine fn_introJ Try.func15 rfl rfl rfl ?_
  refine .inl ?_
  refine .inl ?_
  refine .inr ⟨Bool, fun x => ([(2, .ptr 0 0), (3, .ptr 1 0), (17, .p (B x))], [.box 31 [.p (S a38.nm), .p (S a38.tx), .p (B a38.lf), .p (.lst (encM a38.ks))], .box 31 [.p (S a39.nm), .p (S a39.tx), .p (B a39.lf), .p (.lst (encM a39.ks))]]), fun x => m_impl_Match_j2 n a38 a39 x = some r, ?_, ?_⟩
  · obtain ⟨r150, hr150, h⟩ := bsm h
    refine callA (c_impl_patternTree n a38 _ hr150) ?_
    refine And.intro (fun c => ?_) (fun c => ?_)
    · replace h := cF h c
      refine And.intro (fun _ => ?_) (fun c => absurd c (by decide))
      obtain ⟨r151, hr151, h⟩ := bsm h
      refine callA (c_impl_TreeOK n a39 _ hr151) ?_
      refine And.intro (fun _ => ?_) (fun c => absurd c (by decide))
      refine And.intro (fun c => absurd c (by decide)) (fun _ => ?_)
      exact ⟨(!r151), h, [], ⟨rfl, rfl, rfl, trivial⟩, ⟨⟨rfl, rfl, rfl, rfl, rfl, trivial⟩, ⟨rfl, rfl, rfl, rfl, rfl, trivial⟩, trivial⟩, rfl⟩
    · replace h := cT h c
      refine And.intro (fun c => absurd c (by decide)) (fun _ => ?_)
      refine And.intro (fun c => absurd c (by decide)) (fun _ => ?_)
      refine And.intro (fun _ => ?_) (fun c => absurd c (by decide))
      exact ⟨true, h, [], ⟨rfl, rfl, rfl, trivial⟩, ⟨⟨rfl, rfl, rfl, rfl, rfl, trivial⟩, ⟨rfl, rfl, rfl, rfl, rfl, trivial⟩, trivial⟩, rfl⟩
  · rintro v109 h
    unfold m_impl_Match_j2 at h
    refine And.intro (fun c => ?_) (fun c => ?_)
    · replace h := cT h c
      refine .inl ?_
      refine .inl ?_
      replace h := Option.some.inj h
      subst h
      exact ⟨[.p (.lst ([].map gBind.enc)), .p (B false), .p (I 1)], [], ⟨[], ⟨rfl, rfl, rfl, trivial⟩, trivial, rfl⟩, rfl, rfl, rfl⟩
    · replace h := cF h c
      refine .inl ?_
      obtain ⟨r143, hr143, h⟩ := bsm h
      refine callW (args' := [.p (a38.enc), .p (a39.enc), .row 0 5 0 [].length]) (τ0 := [.row 100 5 ([].map gBind.enc)]) [] [(100, 5)] (c_impl_match n a38 a39 [] _ hr143) (fun K hk => Or.inr hk) rfl ⟨rfl, rfl, ⟨rfl, rfl⟩, trivial⟩ ⟨rfl, trivial⟩ rfl ?_
      rintro rs τ' hl' ⟨rfl, rfl⟩
      refine .inl ?_
      refine .inl ?_
      refine And.intro (fun c => ?_) (fun c => ?_)
      · replace h := cT h c
        refine .inl ?_
        refine .inl ?_
        replace h := Option.some.inj h
        subst h
        exact ⟨[.p (.lst ([].map gBind.enc)), .p (B false), .p (I 0)], [], ⟨[], ⟨rfl, rfl, rfl, trivial⟩, trivial, rfl⟩, rfl, rfl, rfl⟩
      · replace h := cF h c
        refine .inr ⟨List gBind, fun x => ([(7, .row 0 5 0 x.length)], [.row 100 5 (x.map gBind.enc)]), fun x => m_impl_Match_j4 x = some r, ?_, ?_⟩
        · refine .inl ?_
          refine ⟨Int × List gBind, fun x => ([(7, .row 0 5 0 x.2.length), (27, .p (I ((r143.1.length : Nat) : Int))), (28, .p (I x.1))], [.row 100 5 (x.2.map gBind.enc)]), fun x k => m_impl_Match_l5 n r143 k x.1 x.2 = some r, ⟨(0, r143.1), n, h, [(999999, 2)], ⟨rfl, rfl, rfl, trivial⟩, ⟨rfl, trivial⟩, rfl⟩, ?_⟩
          rintro ⟨v115, v116⟩ (_ | k5) h
          · exact ns h
          unfold m_impl_Match_l5 at h
          refine .inl ?_
          refine .inl ?_
          refine And.intro (fun c => ?_) (fun c => ?_)
          · replace h := cT h c
            refine .inl ?_
            refine .inl ?_
            obtain ⟨x181, hx181, h⟩ := bsm h
            refine And.intro (ixr hx181) ?_
            refine Exists.intro _ (And.intro (gz (gm (ixg hx181))) ?_)
            obtain ⟨r149, hr149, h⟩ := bsm h
            refine callA (c_impl_copyTree n x181.tree_ _ hr149) ?_
            obtain ⟨x182, hx182, h⟩ := bsm h
            refine And.intro (ixr hx182) ?_
            refine Exists.intro _ (And.intro ⟨(gz (gm (ixg hx182))), ⟨rfl, rfl⟩, by decide⟩ ?_)
            exact ⟨((wr .i64 (v115 + 1)), (v116.set v115.toNat (gBind.mk x182.name_ r149))), k5, h, Nat.lt_succ_self _, [], ⟨(congrArg (AV.row 0 5 0) (show (v116.set v115.toNat (gBind.mk x182.name_ r149)).length = v116.length by simp)), rfl, rfl, trivial⟩, ⟨(congrArg (Bk.row 100 5) (show (v116.set v115.toNat (gBind.mk x182.name_ r149)).map gBind.enc = (v116.map gBind.enc).set (0 + v115.toNat) ((gBind.mk x182.name_ r149).enc) by simp)), trivial⟩, rfl⟩
          · replace h := cF h c
            exact ⟨v116, h, [], ⟨rfl, trivial⟩, ⟨rfl, trivial⟩, rfl⟩
        · rintro v114 h
          unfold m_impl_Match_j4 at h
          refine .inl ?_
          refine .inl (Exists.intro _ (And.intro (rowN rfl (show v114.length = (v114.map gBind.enc).length by simp)) ?_))
          replace h := Option.some.inj h
          subst h
          exact ⟨[.p (.lst (v114.map gBind.enc)), .p (B true), .p (I 0)], [], ⟨[], ⟨rfl, rfl, rfl, trivial⟩, trivial, rfl⟩, rfl, rfl, rfl⟩
def m_laws_big (n : Nat) (a40 : List UInt8) : Option Bool :=
  some (decide (((bl a40).length : Int) > 1048576))
theorem c_laws_big (n : Nat) (a40 : List UInt8) (r : Bool) (h : m_laws_big n a40 = some r) : FnP Try.prog 21 [.lst (bl a40)] [B r] := by
  unfold m_laws_big at h
  refine fn_introJ Try.func21 rfl rfl rfl ?_
  refine .inl ?_
  refine .inl ?_
  replace h := Option.some.inj h
  subst h
  exact ⟨[.p (B (decide (((bl a40).length : Int) > 1048576)))], [], ⟨[], ⟨rfl, trivial⟩, trivial, rfl⟩, rfl, rfl, rfl⟩
def m_spec_l11Fill_j2 (a41 : Tree) (v123 : List Tree) : Option Tree :=
  some (Tree.mk a41.nm a41.tx a41.lf v123)
def m_spec_l11Fill_l3 (self_spec_l11Fill : Tree → List gBind → Option Tree) (a41 : Tree) (a42 : List gBind) : Nat → Int → List Tree → Option Tree
  | 0, _, _ => none
  | k3 + 1, v124, v125 =>
    bif (decide (v124 < ((encM a41.ks).length : Int))) then (
      (ix a41.ks v124).bind fun x189 =>
      (self_spec_l11Fill x189 a42).bind fun r159 =>
      gp (v125.length + ([r159] : List Tree).length ≤ 68719476736) <|
      (m_spec_l11Fill_l3 self_spec_l11Fill a41 a42 k3) (wr .i64 (v124 + 1)) (v125 ++ [r159]))
    else (
      m_spec_l11Fill_j2 a41 v125)
def m_spec_l11Fill : Nat → Tree → List gBind → Option Tree
  | 0, _, _ => none
  | n + 1, a41, a42 =>
    (m_spec_l11Var n a41).bind fun r152 =>
    bif r152 then (
      (m_spec_l11Find n a42 a41.tx).bind fun r153 =>
      (ix a42 r153).bind fun x183 =>
      some x183.tree_)
    else (
      m_spec_l11Fill_l3 (m_spec_l11Fill n) a41 a42 n 0 [])
theorem c_spec_l11Fill : ∀ (n : Nat) (a41 : Tree) (a42 : List gBind) (r : Tree) (h : m_spec_l11Fill n a41 a42 = some r), FnP Try.prog 141 [a41.enc, .lst (a42.map gBind.enc)] [r.enc]
  | 0, _, _, r, h => ns h
  | n + 1, a41, a42, r, h => by
    have ih_spec_l11Fill := c_spec_l11Fill n
    unfold m_spec_l11Fill at h
    refine fn_introJ Try.func141 rfl rfl rfl ?_
    refine .inl ?_
    refine .inl ?_
    refine .inl ?_
    obtain ⟨r152, hr152, h⟩ := bsm h
    refine callA (c_spec_l11Var n a41 _ hr152) ?_
    refine And.intro (fun c => ?_) (fun c => ?_)
    · replace h := cT h c
      refine .inl ?_
      obtain ⟨r153, hr153, h⟩ := bsm h
      refine callA (c_spec_l11Find n a42 a41.tx _ hr153) ?_
      obtain ⟨x183, hx183, h⟩ := bsm h
      refine And.intro (ix0 hx183) (Exists.intro _ (And.intro (gm (ixg hx183)) (And.intro rfl ?_)))
      replace h := Option.some.inj h
      subst h
      exact ⟨[.p (x183.tree_.enc)], [], ⟨[], ⟨rfl, trivial⟩, trivial, rfl⟩, rfl, rfl, rfl⟩
    · replace h := cF h c
      refine .inl ?_
      refine And.intro (show fits _ _ from trivial) ?_
      refine .inr ⟨List Tree, fun x => ([(2, .ptr 0 0), (4, .ptr 1 0), (5, .row 2 4 0 x.length)], [.box 31 [.p (S a41.nm), .p (S a41.tx), .p (B a41.lf), .p (.lst (encM a41.ks))], .box 31 [.p (S ⟨#[]⟩), .p (S ⟨#[]⟩), .p (B false), .tl []], .row 31 4 (encM x)]), fun x => m_spec_l11Fill_j2 a41 x = some r, ?_, ?_⟩
      · refine .inl ?_
        refine ⟨Int × List Tree, fun x => ([(1, .p (.lst (a42.map gBind.enc))), (2, .ptr 0 0), (4, .ptr 1 0), (5, .row 2 4 0 x.2.length), (6, .p (I x.1))], [.box 31 [.p (S a41.nm), .p (S a41.tx), .p (B a41.lf), .p (.lst (encM a41.ks))], .box 31 [.p (S ⟨#[]⟩), .p (S ⟨#[]⟩), .p (B false), .tl []], .row 31 4 (encM x.2)]), fun x k => m_spec_l11Fill_l3 (m_spec_l11Fill n) a41 a42 k x.1 x.2 = some r, ⟨(0, []), n, h, [], ⟨rfl, rfl, rfl, (congrArg (AV.row 2 4 0) (show [].length = 0 by simp)), rfl, trivial⟩, ⟨⟨rfl, rfl, rfl, rfl, rfl, trivial⟩, ⟨rfl, rfl, rfl, rfl, rfl, trivial⟩, (congrArg (Bk.row 31 4) (show encM [] = [] by simp)), trivial⟩, rfl⟩, ?_⟩
        rintro ⟨v124, v125⟩ (_ | k3) h
        · exact ns h
        unfold m_spec_l11Fill_l3 at h
        refine .inl ?_
        refine .inl ?_
        refine And.intro (fun c => ?_) (fun c => ?_)
        · replace h := cT h c
          refine .inl ?_
          obtain ⟨x189, hx189, h⟩ := bsm h
          refine And.intro (ix0 hx189) (Exists.intro _ (And.intro (encM_get (ixg hx189)) (And.intro rfl ?_)))
          obtain ⟨r159, hr159, h⟩ := bsm h
          refine callA (ih_spec_l11Fill x189 a42 _ hr159) ?_
          refine And.intro (show fits _ _ from ⟨⟨rfl, rfl⟩, trivial⟩) ?_
          obtain ⟨g6, h⟩ := gpT h
          refine Exists.intro ([r159.enc]) (And.intro (rowN rfl rfl) ?_)
          refine Exists.intro (encM v125) (And.intro (rowX (rowN rfl (show v125.length = (encM v125).length by simp)) (show fits _ _ from ⟨⟨rfl, rfl⟩, trivial⟩) (appfitJ (by first | simpa using g6 | (simp at g6 ⊢; omega)) rfl)) ?_)
          exact ⟨((wr .i64 (v124 + 1)), (v125 ++ [r159])), k3, h, Nat.lt_succ_self _, [], ⟨rfl, rfl, rfl, (congrArg (AV.row 2 4 0) (show (v125 ++ [r159]).length = (v125.length + ([r159.enc] : List PV).length) by simp)), rfl, trivial⟩, ⟨⟨rfl, rfl, rfl, rfl, rfl, trivial⟩, ⟨rfl, rfl, rfl, rfl, rfl, trivial⟩, (congrArg (Bk.row 31 4) (show encM (v125 ++ [r159]) = (encM v125) ++ [r159.enc] by simp)), trivial⟩, rfl⟩
        · replace h := cF h c
          exact ⟨v125, h, [], ⟨rfl, rfl, rfl, trivial⟩, ⟨⟨rfl, rfl, rfl, rfl, rfl, trivial⟩, ⟨rfl, rfl, rfl, rfl, rfl, trivial⟩, rfl, trivial⟩, rfl⟩
      · rintro v123 h
        unfold m_spec_l11Fill_j2 at h
        refine .inl ?_
        refine .inl ?_
        refine .inl (Exists.intro _ (And.intro (rowN rfl (show v123.length = (encM v123).length by simp)) ?_))
        replace h := Option.some.inj h
        subst h
        exact ⟨[.p ((Tree.mk a41.nm a41.tx a41.lf v123).enc)], [], ⟨[], ⟨rfl, trivial⟩, trivial, rfl⟩, rfl, rfl, rfl⟩
def m_spec_Fill_j10 (n : Nat) (a43 : Tree) (a44 : List gBind) : Option (Tree × Int) :=
  (m_spec_l11Fill n a43 a44).bind fun r201 =>
  (m_spec_TreeOK n r201).bind fun r202 =>
  bif (!r202) then (
    some ((Tree.mk ⟨#[]⟩ ⟨#[]⟩ false []), 3))
  else (
    (m_spec_l01Copy n r201).bind fun r203 =>
    some (r203, 0))
def m_spec_Fill_l11 (n : Nat) (a43 : Tree) (a44 : List gBind) (r197 : List ByteArray × Bool) : Nat → Int → Option (Tree × Int)
  | 0, _ => none
  | k11 + 1, v138 =>
    bif (decide (v138 < ((r197.1.length : Nat) : Int))) then (
      (ix r197.1 v138).bind fun x231 =>
      (m_spec_l11Find n a44 x231).bind fun r206 =>
      bif (decide (r206 < 0)) then (
        some ((Tree.mk ⟨#[]⟩ ⟨#[]⟩ false []), 8))
      else (
        (m_spec_Fill_l11 n a43 a44 r197 k11) (wr .i64 (v138 + 1))))
    else (
      m_spec_Fill_j10 n a43 a44)
def m_spec_Fill_j8 (n : Nat) (a43 : Tree) (a44 : List gBind) : Option (Tree × Int) :=
  (m_spec_l11Vars n a43 []).bind fun r197 =>
  m_spec_Fill_l11 n a43 a44 r197 n 0
def m_spec_Fill_j18 (v142 : Int) (rec16 : Int → Option (Tree × Int)) (v147 : Bool) : Option (Tree × Int) :=
  bif v147 then (
    some ((Tree.mk ⟨#[]⟩ ⟨#[]⟩ false []), 1))
  else (
    rec16 (wr .i64 (v142 + 1)))
def m_spec_Fill_l16 (n : Nat) (a43 : Tree) (a44 : List gBind) : Nat → Int → Option (Tree × Int)
  | 0, _ => none
  | k16 + 1, v142 =>
    bif (decide (v142 < ((a44.map gBind.enc).length : Int))) then (
      (ix a44 v142).bind fun x265 =>
      (m_spec_l01Name n x265.name_).bind fun r240 =>
      bif (!r240) then (
        m_spec_Fill_j18 v142 (m_spec_Fill_l16 n a43 a44 k16) true)
      else (
        (ix a44 v142).bind fun x266 =>
        (m_spec_TreeOK n x266.tree_).bind fun r241 =>
        bif (!r241) then (
          m_spec_Fill_j18 v142 (m_spec_Fill_l16 n a43 a44 k16) true)
        else (
          (ix a44 v142).bind fun x267 =>
          (m_spec_l11Find n a44 x267.name_).bind fun r242 =>
          m_spec_Fill_j18 v142 (m_spec_Fill_l16 n a43 a44 k16) (r242 != v142))))
    else (
      m_spec_Fill_j8 n a43 a44)
def m_spec_Fill (n : Nat) (a43 : Tree) (a44 : List gBind) : Option (Tree × Int) :=
  (m_spec_l11Pattern n a43).bind fun r160 =>
  bif (!r160) then (
    some ((Tree.mk ⟨#[]⟩ ⟨#[]⟩ false []), 1))
  else (
    m_spec_Fill_l16 n a43 a44 n 0)
theorem c_spec_Fill (n : Nat) (a43 : Tree) (a44 : List gBind) (r : Tree × Int) (h : m_spec_Fill n a43 a44 = some r) : FnP Try.prog 56 [a43.enc, .lst (a44.map gBind.enc)] [r.1.enc, I r.2] := by
  unfold m_spec_Fill at h
  refine fn_introJ Try.func56 rfl rfl rfl ?_
  refine .inl ?_
  refine .inl ?_
  refine .inl ?_
  obtain ⟨r160, hr160, h⟩ := bsm h
  refine callA (c_spec_l11Pattern n a43 _ hr160) ?_
  refine And.intro (fun c => ?_) (fun c => ?_)
  · replace h := cT h c
    refine .inl ?_
    refine .inl ?_
    replace h := Option.some.inj h
    subst h
    exact ⟨[.p ((Tree.mk ⟨#[]⟩ ⟨#[]⟩ false []).enc), .p (I 1)], [], ⟨[], ⟨rfl, rfl, trivial⟩, trivial, rfl⟩, rfl, rfl, rfl⟩
  · replace h := cF h c
    refine .inr ⟨Unit, fun x => ([(1, .p (.lst (a44.map gBind.enc))), (2, .ptr 0 0), (4, .ptr 1 0)], [.box 31 [.p (S a43.nm), .p (S a43.tx), .p (B a43.lf), .p (.lst (encM a43.ks))], .box 31 [.p (S ⟨#[]⟩), .p (S ⟨#[]⟩), .p (B false), .tl []]]), fun x => m_spec_Fill_j8 n a43 a44 = some r, ?_, ?_⟩
    · refine .inl ?_
      refine ⟨Int, fun x => ([(1, .p (.lst (a44.map gBind.enc))), (2, .ptr 0 0), (4, .ptr 1 0), (6, .p (I x))], [.box 31 [.p (S a43.nm), .p (S a43.tx), .p (B a43.lf), .p (.lst (encM a43.ks))], .box 31 [.p (S ⟨#[]⟩), .p (S ⟨#[]⟩), .p (B false), .tl []]]), fun x k => m_spec_Fill_l16 n a43 a44 k x = some r, ⟨0, n, h, [], ⟨rfl, rfl, rfl, rfl, trivial⟩, ⟨⟨rfl, rfl, rfl, rfl, rfl, trivial⟩, ⟨rfl, rfl, rfl, rfl, rfl, trivial⟩, trivial⟩, rfl⟩, ?_⟩
      rintro v142 (_ | k16) h
      · exact ns h
      unfold m_spec_Fill_l16 at h
      refine .inl ?_
      refine .inl ?_
      refine And.intro (fun c => ?_) (fun c => ?_)
      · replace h := cT h c
        refine .inl ?_
        refine .inr ⟨Bool, fun x => ([(1, .p (.lst (a44.map gBind.enc))), (2, .ptr 0 0), (4, .ptr 1 0), (6, .p (I v142)), (47, .p (B x))], [.box 31 [.p (S a43.nm), .p (S a43.tx), .p (B a43.lf), .p (.lst (encM a43.ks))], .box 31 [.p (S ⟨#[]⟩), .p (S ⟨#[]⟩), .p (B false), .tl []]]), fun x => m_spec_Fill_j18 v142 (m_spec_Fill_l16 n a43 a44 k16) x = some r, ?_, ?_⟩
        · obtain ⟨x265, hx265, h⟩ := bsm h
          refine And.intro (ix0 hx265) (Exists.intro _ (And.intro (gm (ixg hx265)) (And.intro rfl ?_)))
          obtain ⟨r240, hr240, h⟩ := bsm h
          refine callA (c_spec_l01Name n x265.name_ _ hr240) ?_
          refine And.intro (fun c => ?_) (fun c => ?_)
          · replace h := cF h c
            refine And.intro (fun _ => ?_) (fun c => absurd c (by decide))
            refine And.intro (fun _ => ?_) (fun c => absurd c (by decide))
            obtain ⟨x266, hx266, h⟩ := bsm h
            refine And.intro (ix0 hx266) (Exists.intro _ (And.intro (gm (ixg hx266)) (And.intro rfl ?_)))
            refine And.intro (fun _ => ?_) (fun c => absurd c (by decide))
            refine And.intro (fun _ => ?_) (fun c => absurd c (by decide))
            refine And.intro (fun _ => ?_) (fun c => absurd c (by decide))
            obtain ⟨r241, hr241, h⟩ := bsm h
            refine callA (c_spec_TreeOK n x266.tree_ _ hr241) ?_
            refine And.intro (fun _ => ?_) (fun c => absurd c (by decide))
            refine And.intro (fun c => absurd c (by decide)) (fun _ => ?_)
            refine And.intro (fun c => ?_) (fun c => ?_)
            · replace h := cF h c
              refine And.intro (fun _ => ?_) (fun c => absurd c (by decide))
              refine And.intro (fun _ => ?_) (fun c => absurd c (by decide))
              refine And.intro (fun _ => ?_) (fun c => absurd c (by decide))
              obtain ⟨x267, hx267, h⟩ := bsm h
              refine And.intro (ix0 hx267) (Exists.intro _ (And.intro (gm (ixg hx267)) (And.intro rfl ?_)))
              refine And.intro (fun _ => ?_) (fun c => absurd c (by decide))
              refine And.intro (fun _ => ?_) (fun c => absurd c (by decide))
              refine And.intro (fun _ => ?_) (fun c => absurd c (by decide))
              obtain ⟨r242, hr242, h⟩ := bsm h
              refine callA (c_spec_l11Find n a44 x267.name_ _ hr242) ?_
              refine And.intro (fun _ => ?_) (fun c => absurd c (by decide))
              refine And.intro (fun _ => ?_) (fun c => absurd c (by decide))
              refine And.intro (fun c => absurd c (by decide)) (fun _ => ?_)
              exact ⟨(r242 != v142), h, [], ⟨rfl, rfl, rfl, rfl, rfl, trivial⟩, ⟨⟨rfl, rfl, rfl, rfl, rfl, trivial⟩, ⟨rfl, rfl, rfl, rfl, rfl, trivial⟩, trivial⟩, rfl⟩
            · replace h := cT h c
              refine And.intro (fun c => absurd c (by decide)) (fun _ => ?_)
              refine And.intro (fun c => absurd c (by decide)) (fun _ => ?_)
              refine And.intro (fun c => absurd c (by decide)) (fun _ => ?_)
              refine And.intro (fun c => absurd c (by decide)) (fun _ => ?_)
              refine And.intro (fun c => absurd c (by decide)) (fun _ => ?_)
              refine And.intro (fun c => absurd c (by decide)) (fun _ => ?_)
              refine And.intro (fun c => absurd c (by decide)) (fun _ => ?_)
              refine And.intro (fun c => absurd c (by decide)) (fun _ => ?_)
              refine And.intro (fun _ => ?_) (fun c => absurd c (by decide))
              exact ⟨true, h, [], ⟨rfl, rfl, rfl, rfl, rfl, trivial⟩, ⟨⟨rfl, rfl, rfl, rfl, rfl, trivial⟩, ⟨rfl, rfl, rfl, rfl, rfl, trivial⟩, trivial⟩, rfl⟩
          · replace h := cT h c
            refine And.intro (fun c => absurd c (by decide)) (fun _ => ?_)
            refine And.intro (fun c => absurd c (by decide)) (fun _ => ?_)
            refine And.intro (fun c => absurd c (by decide)) (fun _ => ?_)
            refine And.intro (fun c => absurd c (by decide)) (fun _ => ?_)
            refine And.intro (fun c => absurd c (by decide)) (fun _ => ?_)
            refine And.intro (fun c => absurd c (by decide)) (fun _ => ?_)
            refine And.intro (fun _ => ?_) (fun c => absurd c (by decide))
            refine And.intro (fun c => absurd c (by decide)) (fun _ => ?_)
            refine And.intro (fun c => absurd c (by decide)) (fun _ => ?_)
            refine And.intro (fun c => absurd c (by decide)) (fun _ => ?_)
            refine And.intro (fun c => absurd c (by decide)) (fun _ => ?_)
            refine And.intro (fun c => absurd c (by decide)) (fun _ => ?_)
            refine And.intro (fun c => absurd c (by decide)) (fun _ => ?_)
            refine And.intro (fun c => absurd c (by decide)) (fun _ => ?_)
            refine And.intro (fun c => absurd c (by decide)) (fun _ => ?_)
            refine And.intro (fun c => absurd c (by decide)) (fun _ => ?_)
            refine And.intro (fun _ => ?_) (fun c => absurd c (by decide))
            exact ⟨true, h, [], ⟨rfl, rfl, rfl, rfl, rfl, trivial⟩, ⟨⟨rfl, rfl, rfl, rfl, rfl, trivial⟩, ⟨rfl, rfl, rfl, rfl, rfl, trivial⟩, trivial⟩, rfl⟩
        · rintro v147 h
          unfold m_spec_Fill_j18 at h
          refine And.intro (fun c => ?_) (fun c => ?_)
          · replace h := cT h c
            refine .inl ?_
            refine .inl ?_
            replace h := Option.some.inj h
            subst h
            exact ⟨[.p ((Tree.mk ⟨#[]⟩ ⟨#[]⟩ false []).enc), .p (I 1)], [], ⟨[], ⟨rfl, rfl, trivial⟩, trivial, rfl⟩, rfl, rfl, rfl⟩
          · replace h := cF h c
            exact ⟨(wr .i64 (v142 + 1)), k16, h, Nat.lt_succ_self _, [], ⟨rfl, rfl, rfl, rfl, trivial⟩, ⟨⟨rfl, rfl, rfl, rfl, rfl, trivial⟩, ⟨rfl, rfl, rfl, rfl, rfl, trivial⟩, trivial⟩, rfl⟩
      · replace h := cF h c
        exact ⟨(), h, [], ⟨rfl, rfl, rfl, trivial⟩, ⟨⟨rfl, rfl, rfl, rfl, rfl, trivial⟩, ⟨rfl, rfl, rfl, rfl, rfl, trivial⟩, trivial⟩, rfl⟩
    · rintro _ h
      unfold m_spec_Fill_j8 at h
      refine .inl ?_
      refine And.intro (show fits _ _ from trivial) ?_
      obtain ⟨r197, hr197, h⟩ := bsm h
      refine callW (args' := [.p (a43.enc), .row 0 1 0 [].length]) (τ0 := [.row 9 1 ([].map S)]) [2] [] (c_spec_l11Vars n a43 [] _ hr197) (fun K hk => Or.inr hk) rfl ⟨rfl, (congrArg (AV.row 0 1 0) (show [].length = 0 by simp)), trivial⟩ ⟨(congrArg (Bk.row 9 1) (show [].map S = [] by simp)), trivial⟩ rfl ?_
      rintro rs τ' hl' ⟨rfl, rfl⟩
      refine .inr ⟨Unit, fun x => ([(1, .p (.lst (a44.map gBind.enc))), (2, .ptr 0 0), (4, .ptr 1 0)], [.box 31 [.p (S a43.nm), .p (S a43.tx), .p (B a43.lf), .p (.lst (encM a43.ks))], .box 31 [.p (S ⟨#[]⟩), .p (S ⟨#[]⟩), .p (B false), .tl []]]), fun x => m_spec_Fill_j10 n a43 a44 = some r, ?_, ?_⟩
      · refine .inl ?_
        refine ⟨Int, fun x => ([(1, .p (.lst (a44.map gBind.enc))), (2, .ptr 0 0), (4, .ptr 1 0), (7, .row 2 1 0 r197.1.length), (9, .p (I x))], [.box 31 [.p (S a43.nm), .p (S a43.tx), .p (B a43.lf), .p (.lst (encM a43.ks))], .box 31 [.p (S ⟨#[]⟩), .p (S ⟨#[]⟩), .p (B false), .tl []], .row 9 1 (r197.1.map S)]), fun x k => m_spec_Fill_l11 n a43 a44 r197 k x = some r, ⟨0, n, h, [], ⟨rfl, rfl, rfl, rfl, rfl, trivial⟩, ⟨⟨rfl, rfl, rfl, rfl, rfl, trivial⟩, ⟨rfl, rfl, rfl, rfl, rfl, trivial⟩, rfl, trivial⟩, rfl⟩, ?_⟩
        rintro v138 (_ | k11) h
        · exact ns h
        unfold m_spec_Fill_l11 at h
        refine .inl ?_
        refine .inl ?_
        refine And.intro (fun c => ?_) (fun c => ?_)
        · replace h := cT h c
          refine .inl ?_
          refine .inl ?_
          obtain ⟨x231, hx231, h⟩ := bsm h
          refine And.intro (ixr hx231) ?_
          refine Exists.intro _ (And.intro (gz (gm (ixg hx231))) ?_)
          obtain ⟨r206, hr206, h⟩ := bsm h
          refine callA (c_spec_l11Find n a44 x231 _ hr206) ?_
          refine And.intro (fun c => ?_) (fun c => ?_)
          · replace h := cT h c
            refine .inl ?_
            refine .inl ?_
            replace h := Option.some.inj h
            subst h
            exact ⟨[.p ((Tree.mk ⟨#[]⟩ ⟨#[]⟩ false []).enc), .p (I 8)], [], ⟨[], ⟨rfl, rfl, trivial⟩, trivial, rfl⟩, rfl, rfl, rfl⟩
          · replace h := cF h c
            exact ⟨(wr .i64 (v138 + 1)), k11, h, Nat.lt_succ_self _, [], ⟨rfl, rfl, rfl, rfl, rfl, trivial⟩, ⟨⟨rfl, rfl, rfl, rfl, rfl, trivial⟩, ⟨rfl, rfl, rfl, rfl, rfl, trivial⟩, rfl, trivial⟩, rfl⟩
        · replace h := cF h c
          exact ⟨(), h, [], ⟨rfl, rfl, rfl, trivial⟩, ⟨⟨rfl, rfl, rfl, rfl, rfl, trivial⟩, ⟨rfl, rfl, rfl, rfl, rfl, trivial⟩, trivial⟩, rfl⟩
      · rintro _ h
        unfold m_spec_Fill_j10 at h
        refine .inl ?_
        obtain ⟨r201, hr201, h⟩ := bsm h
        refine callA (c_spec_l11Fill n a43 a44 _ hr201) ?_
        refine .inl ?_
        refine .inl ?_
        obtain ⟨r202, hr202, h⟩ := bsm h
        refine callA (c_spec_TreeOK n r201 _ hr202) ?_
        refine And.intro (fun c => ?_) (fun c => ?_)
        · replace h := cT h c
          refine .inl ?_
          refine .inl ?_
          replace h := Option.some.inj h
          subst h
          exact ⟨[.p ((Tree.mk ⟨#[]⟩ ⟨#[]⟩ false []).enc), .p (I 3)], [], ⟨[], ⟨rfl, rfl, trivial⟩, trivial, rfl⟩, rfl, rfl, rfl⟩
        · replace h := cF h c
          refine .inl ?_
          obtain ⟨r203, hr203, h⟩ := bsm h
          refine callA (c_spec_l01Copy n r201 _ hr203) ?_
          replace h := Option.some.inj h
          subst h
          exact ⟨[.p (r203.enc), .p (I 0)], [], ⟨[], ⟨rfl, rfl, trivial⟩, trivial, rfl⟩, rfl, rfl, rfl⟩
def m_spec_l01Leaf (n : Nat) (a45 : ByteArray) (a46 : ByteArray) : Option Tree :=
  some (Tree.mk a45 a46 true [])
theorem c_spec_l01Leaf (n : Nat) (a45 : ByteArray) (a46 : ByteArray) (r : Tree) (h : m_spec_l01Leaf n a45 a46 = some r) : FnP Try.prog 109 [S a45, S a46] [r.enc] := by
  unfold m_spec_l01Leaf at h
  refine fn_introJ Try.func109 rfl rfl rfl ?_
  refine .inl ?_
  refine .inl ?_
  refine .inl ?_
  replace h := Option.some.inj h
  subst h
  exact ⟨[.p ((Tree.mk a45 a46 true []).enc)], [], ⟨[], ⟨rfl, trivial⟩, trivial, rfl⟩, rfl, rfl, rfl⟩
def m_spec_l01Node (n : Nat) (a47 : ByteArray) (a48 : List Tree) : Option Tree :=
  some (Tree.mk a47 ⟨#[]⟩ false a48)
theorem c_spec_l01Node (n : Nat) (a47 : ByteArray) (a48 : List Tree) (r : Tree) (h : m_spec_l01Node n a47 a48 = some r) : FnP Try.prog 110 [S a47, .lst (encM a48)] [r.enc] := by
  unfold m_spec_l01Node at h
  refine fn_introJ Try.func110 rfl rfl rfl ?_
  refine .inl ?_
  refine .inl ?_
  replace h := Option.some.inj h
  subst h
  exact ⟨[.p ((Tree.mk a47 ⟨#[]⟩ false a48).enc)], [], ⟨[], ⟨rfl, trivial⟩, trivial, rfl⟩, rfl, rfl, rfl⟩
def m_spec_l11DrawPattern_j2 (n : Nat) (v154 : Cu) (v155 : List Tree) : Option (Tree × Cu) :=
  (m_spec_l01Cur_pick n v154 3).bind fun r306 =>
  (ix ([⟨#[65, 100, 100]⟩, ⟨#[77, 117, 108]⟩, ⟨#[78, 101, 103]⟩]) r306.1).bind fun x313 =>
  (m_spec_l01Node n x313 v155).bind fun r307 =>
  some (r307, r306.2)
def m_spec_l11DrawPattern_l3 (self_spec_l11DrawPattern : Cu → Int → Option (Tree × Cu)) (n : Nat) (a50 : Int) : Nat → Int → Cu → List Tree → Option (Tree × Cu)
  | 0, _, _, _ => none
  | k3 + 1, v156, v157, v158 =>
    bif (decide (v156 > 0)) then (
      (self_spec_l11DrawPattern v157 (wr .i64 (a50 - 1))).bind fun r311 =>
      gp (v158.length + ([r311.1] : List Tree).length ≤ 68719476736) <|
      (m_spec_l11DrawPattern_l3 self_spec_l11DrawPattern n a50 k3) (wr .i64 (v156 - 1)) r311.2 (v158 ++ [r311.1]))
    else (
      m_spec_l11DrawPattern_j2 n v157 v158)
def m_spec_l11DrawPattern : Nat → Cu → Int → Option (Tree × Cu)
  | 0, _, _ => none
  | n + 1, a49, a50 =>
    (m_spec_l01Cur_pick n a49 3).bind fun r243 =>
    bif (r243.1 == 0) then (
      (m_spec_l01Cur_pick n r243.2 3).bind fun r244 =>
      (ix ([⟨#[120]⟩, ⟨#[121]⟩, ⟨#[122]⟩]) r244.1).bind fun x268 =>
      (m_spec_l01Leaf n ⟨#[86, 97, 114]⟩ x268).bind fun r245 =>
      some (r245, r244.2))
    else (
      bif (decide (a50 ≤ 0)) then (
        (m_spec_l01Cur_pick n r243.2 2).bind fun r274 =>
        (ix ([⟨#[78, 117, 109]⟩, ⟨#[73, 100]⟩]) r274.1).bind fun x291 =>
        (m_spec_l01Cur_pick n r274.2 3).bind fun r275 =>
        (ix ([⟨#[48]⟩, ⟨#[49]⟩, ⟨#[97]⟩]) r275.1).bind fun x292 =>
        (m_spec_l01Leaf n x291 x292).bind fun r276 =>
        some (r276, r275.2))
      else (
        (m_spec_l01Cur_pick n r243.2 3).bind fun r308 =>
        m_spec_l11DrawPattern_l3 (m_spec_l11DrawPattern n) n a50 n r308.1 r308.2 []))
theorem c_spec_l11DrawPattern : ∀ (n : Nat) (a49 : Cu) (a50 : Int) (r : Tree × Cu) (h : m_spec_l11DrawPattern n a49 a50 = some r), Sy.Fn Try.prog 157 [.ptr 0 0, .p (I a50)] [.box 213 [.p (.lst (bl a49.code)), .p (I a49.at_), .p (I a49.seed)]] (fun rs τ' => rs = [.p (r.1.enc)] ∧ τ' = [.box 213 [.p (.lst (bl r.2.code)), .p (I r.2.at_), .p (I r.2.seed)]])
  | 0, _, _, r, h => ns h
  | n + 1, a49, a50, r, h => by
    have ih_spec_l11DrawPattern := c_spec_l11DrawPattern n
    unfold m_spec_l11DrawPattern at h
    refine fn_introJ Try.func157 rfl rfl rfl ?_
    refine .inl ?_
    refine .inl ?_
    refine .inl ?_
    obtain ⟨r243, hr243, h⟩ := bsm h
    refine callW (args' := [.ptr 0 0, .p (I 3)]) (τ0 := [.box 213 [.p (.lst (bl a49.code)), .p (I a49.at_), .p (I a49.seed)]]) [0] [] (c_spec_l01Cur_pick n a49 3 _ hr243) (fun K hk => hk) rfl ⟨rfl, rfl, trivial⟩ ⟨⟨rfl, rfl, rfl, rfl, trivial⟩, trivial⟩ rfl ?_
    rintro rs τ' hl' ⟨rfl, rfl⟩
    refine And.intro (fun c => ?_) (fun c => ?_)
    · replace h := cT h c
      refine .inl ?_
      refine And.intro (show fits _ _ from ⟨⟨rfl, rfl⟩, ⟨⟨rfl, rfl⟩, ⟨⟨rfl, rfl⟩, trivial⟩⟩⟩) ?_
      obtain ⟨r244, hr244, h⟩ := bsm h
      refine callW (args' := [.ptr 0 0, .p (I 3)]) (τ0 := [.box 213 [.p (.lst (bl r243.2.code)), .p (I r243.2.at_), .p (I r243.2.seed)]]) [0] [] (c_spec_l01Cur_pick n r243.2 3 _ hr244) (fun K hk => hk) rfl ⟨rfl, rfl, trivial⟩ ⟨⟨rfl, rfl, rfl, rfl, trivial⟩, trivial⟩ rfl ?_
      rintro rs τ' hl' ⟨rfl, rfl⟩
      obtain ⟨x268, hx268, h⟩ := bsm h
      refine And.intro (by have q := ixr hx268; simp at q ⊢; omega) ?_
      refine Exists.intro _ (And.intro (gz (gc (show [S ⟨#[120]⟩, S ⟨#[121]⟩, S ⟨#[122]⟩] = ([⟨#[120]⟩, ⟨#[121]⟩, ⟨#[122]⟩]).map S by simp) (gm (ixg hx268)))) ?_)
      obtain ⟨r245, hr245, h⟩ := bsm h
      refine callA (c_spec_l01Leaf n ⟨#[86, 97, 114]⟩ x268 _ hr245) ?_
      replace h := Option.some.inj h
      subst h
      exact ⟨[.p (r245.enc)], [.box 213 [.p (.lst (bl r244.2.code)), .p (I r244.2.at_), .p (I r244.2.seed)]], ⟨[], ⟨rfl, trivial⟩, ⟨⟨rfl, rfl, rfl, rfl, trivial⟩, trivial⟩, rfl⟩, rfl, rfl, rfl⟩
    · replace h := cF h c
      refine .inl ?_
      refine .inl ?_
      refine And.intro (fun c => ?_) (fun c => ?_)
      · replace h := cT h c
        refine .inl ?_
        refine ⟨[1, 6, 5000, 6000, 6000, 6000, 6000, 6000, 6000, 6000, 6000, 6000, 6000, 6000, 6000, 6000, 6000, 6000, 6000, 6000, 6000, 6000, 6000, 6000, 6000, 6000, 6000, 6000, 6000, 6000, 6000, 6000, 6000, 6000, 6000, 6000, 6000, 6000, 6000, 6000, 6000, 6000, 6000, 6000, 6000, 6000, 6000, 6000, 6000, 6000, 6000, 6000, 6000, 6000, 6000, 6000, 6000, 6000, 6000, 6000, 6000, 6000, 6000, 6000, 6000, 6000, 6000, 6000, 6000, 6000, 6000, 6000, 6000, 6000, 6000, 6000, 6000, 6000, 6000, 6000, 6000, 6000, 6000, 6000, 6000, 6000, 6000, 6000, 6000, 6000, 6000, 6000, 6000, 6000, 6000, 6000, 6000, 6000, 6000, 6000, 6000, 6000, 6000, 6000, 6000, 6000, 6000, 6000, 6000, 6000, 6000, 6000, 6000, 6000, 6000, 6000, 6000, 6000, 6000, 6000, 6000, 6000, 0, 5000, 2, 3, 4, 5000, 5, 7, 8, 9, 10, 1011, 7, 5, 8, 9, 10, 1011, 6000, 6000, 6000, 6000, 6000, 6000, 6000, 5, 2, 3, 4, 7, 8, 9, 10, 1011, 5000, 2, 5000, 6000, 6000, 6000, 6000, 6000, 6000, 6000, 6000, 6000, 6000, 6000, 6000, 6000, 6000, 6000, 6000, 6000, 6000, 6000, 6000, 6000, 0, 3, 4, 5000, 5, 7, 8, 9, 10, 1011, 7, 5, 8, 9, 10, 1011, 5000, 5, 5000, 0, 3, 4, 7, 8, 9, 10, 1011, 7, 8, 9, 0, 3, 4, 10, 1011, 7, 5000, 0, 3, 4, 5, 8, 9, 10, 1011, 5, 8, 9, 0, 3, 4, 10, 1011, 6000, 6000, 6000, 6000, 6000, 6000, 6000, 6000, 6000, 6000, 6000, 6000, 6000, 6000, 6000, 6000, 6000, 6000, 6000, 6000, 6000, 6000, 6000, 6000, 6000, 6000, 6000, 6000, 6000, 6000, 6000, 6000, 6000, 6000, 6000, 6000, 6000, 6000, 5, 5000, 6000, 6000, 6000, 6000, 6000, 6000, 6000, 6000, 6000, 0, 2, 3, 4, 7, 8, 9, 10, 1011, 2, 5000, 0, 3, 4, 7, 8, 9, 10, 1011, 7, 8, 9, 0, 3, 4, 10, 1011], [0], by decide +kernel, ?_⟩
        obtain ⟨r274, hr274, h⟩ := bsm h
        obtain ⟨x291, hx291, h⟩ := bsm h
        obtain ⟨r275, hr275, h⟩ := bsm h
        obtain ⟨x292, hx292, h⟩ := bsm h
        obtain ⟨r276, hr276, h⟩ := bsm h
        refine And.intro ?_ ?_
        · refine And.intro (show fits _ _ from ⟨⟨rfl, rfl⟩, ⟨⟨rfl, rfl⟩, trivial⟩⟩) ?_
          refine And.intro ?_ ?_
          · skip
            refine callW (args' := [.ptr 0 0, .p (I 2)]) (τ0 := [.box 213 [.p (.lst (bl r243.2.code)), .p (I r243.2.at_), .p (I r243.2.seed)]]) [0] [] (c_spec_l01Cur_pick n r243.2 2 _ hr274) (fun K hk => hk) rfl ⟨rfl, rfl, trivial⟩ ⟨⟨rfl, rfl, rfl, rfl, trivial⟩, trivial⟩ rfl ?_
            rintro rs τ' hl' ⟨rfl, rfl⟩
            refine And.intro (by have q := ixr hx291; simp at q ⊢; omega) ?_
            refine Exists.intro _ (And.intro (gz (gc (show [S ⟨#[78, 117, 109]⟩, S ⟨#[73, 100]⟩] = ([⟨#[78, 117, 109]⟩, ⟨#[73, 100]⟩]).map S by simp) (gm (ixg hx291)))) ?_)
            refine And.intro ?_ ?_
            · refine And.intro (show fits _ _ from ⟨⟨rfl, rfl⟩, ⟨⟨rfl, rfl⟩, ⟨⟨rfl, rfl⟩, trivial⟩⟩⟩) ?_
              refine callW (args' := [.ptr 0 0, .p (I 3)]) (τ0 := [.box 213 [.p (.lst (bl r274.2.code)), .p (I r274.2.at_), .p (I r274.2.seed)]]) [0] [] (c_spec_l01Cur_pick n r274.2 3 _ hr275) (fun K hk => hk) rfl ⟨rfl, rfl, trivial⟩ ⟨⟨rfl, rfl, rfl, rfl, trivial⟩, trivial⟩ rfl ?_
              rintro rs τ' hl' ⟨rfl, rfl⟩
              refine And.intro (by have q := ixr hx292; simp at q ⊢; omega) ?_
              refine Exists.intro _ (And.intro (gz (gc (show [S ⟨#[48]⟩, S ⟨#[49]⟩, S ⟨#[97]⟩] = ([⟨#[48]⟩, ⟨#[49]⟩, ⟨#[97]⟩]).map S by simp) (gm (ixg hx292)))) ?_)
              refine callA (c_spec_l01Leaf n x291 x292 _ hr276) ?_
              replace h := Option.some.inj h
              subst h
              exact ⟨[.p (r276.enc)], [.box 213 [.p (.lst (bl r275.2.code)), .p (I r275.2.at_), .p (I r275.2.seed)]], ⟨[], ⟨rfl, trivial⟩, ⟨⟨rfl, rfl, rfl, rfl, trivial⟩, trivial⟩, rfl⟩, rfl, rfl, rfl⟩
            · skip
              refine callW (args' := [.ptr 0 0, .p (I 3)]) (τ0 := [.box 213 [.p (.lst (bl r274.2.code)), .p (I r274.2.at_), .p (I r274.2.seed)]]) [0] [] (c_spec_l01Cur_pick n r274.2 3 _ hr275) (fun K hk => hk) rfl ⟨rfl, rfl, trivial⟩ ⟨⟨rfl, rfl, rfl, rfl, trivial⟩, trivial⟩ rfl ?_
              rintro rs τ' hl' ⟨rfl, rfl⟩
              refine And.intro (show fits _ _ from ⟨⟨rfl, rfl⟩, ⟨⟨rfl, rfl⟩, ⟨⟨rfl, rfl⟩, trivial⟩⟩⟩) ?_
              refine And.intro (by have q := ixr hx292; simp at q ⊢; omega) ?_
              refine Exists.intro _ (And.intro (gz (gc (show [S ⟨#[48]⟩, S ⟨#[49]⟩, S ⟨#[97]⟩] = ([⟨#[48]⟩, ⟨#[49]⟩, ⟨#[97]⟩]).map S by simp) (gm (ixg hx292)))) ?_)
              refine callA (c_spec_l01Leaf n x291 x292 _ hr276) ?_
              replace h := Option.some.inj h
              subst h
              exact ⟨[.p (r276.enc)], [.box 213 [.p (.lst (bl r275.2.code)), .p (I r275.2.at_), .p (I r275.2.seed)]], ⟨[], ⟨rfl, trivial⟩, ⟨⟨rfl, rfl, rfl, rfl, trivial⟩, trivial⟩, rfl⟩, rfl, rfl, rfl⟩
          · refine And.intro (show fits _ _ from ⟨⟨rfl, rfl⟩, ⟨⟨rfl, rfl⟩, ⟨⟨rfl, rfl⟩, trivial⟩⟩⟩) ?_
            refine callW (args' := [.ptr 0 0, .p (I 2)]) (τ0 := [.box 213 [.p (.lst (bl r243.2.code)), .p (I r243.2.at_), .p (I r243.2.seed)]]) [0] [] (c_spec_l01Cur_pick n r243.2 2 _ hr274) (fun K hk => hk) rfl ⟨rfl, rfl, trivial⟩ ⟨⟨rfl, rfl, rfl, rfl, trivial⟩, trivial⟩ rfl ?_
            rintro rs τ' hl' ⟨rfl, rfl⟩
            refine And.intro (by have q := ixr hx291; simp at q ⊢; omega) ?_
            refine Exists.intro _ (And.intro (gz (gc (show [S ⟨#[78, 117, 109]⟩, S ⟨#[73, 100]⟩] = ([⟨#[78, 117, 109]⟩, ⟨#[73, 100]⟩]).map S by simp) (gm (ixg hx291)))) ?_)
            refine callW (args' := [.ptr 0 0, .p (I 3)]) (τ0 := [.box 213 [.p (.lst (bl r274.2.code)), .p (I r274.2.at_), .p (I r274.2.seed)]]) [0] [] (c_spec_l01Cur_pick n r274.2 3 _ hr275) (fun K hk => hk) rfl ⟨rfl, rfl, trivial⟩ ⟨⟨rfl, rfl, rfl, rfl, trivial⟩, trivial⟩ rfl ?_
            rintro rs τ' hl' ⟨rfl, rfl⟩
            refine And.intro (by have q := ixr hx292; simp at q ⊢; omega) ?_
            refine Exists.intro _ (And.intro (gz (gc (show [S ⟨#[48]⟩, S ⟨#[49]⟩, S ⟨#[97]⟩] = ([⟨#[48]⟩, ⟨#[49]⟩, ⟨#[97]⟩]).map S by simp) (gm (ixg hx292)))) ?_)
            refine callA (c_spec_l01Leaf n x291 x292 _ hr276) ?_
            replace h := Option.some.inj h
            subst h
            exact ⟨[.p (r276.enc)], [.box 213 [.p (.lst (bl r275.2.code)), .p (I r275.2.at_), .p (I r275.2.seed)]], ⟨[], ⟨rfl, trivial⟩, ⟨⟨rfl, rfl, rfl, rfl, trivial⟩, trivial⟩, rfl⟩, rfl, rfl, rfl⟩
        · refine And.intro ?_ ?_
          · skip
            refine callW (args' := [.ptr 0 0, .p (I 2)]) (τ0 := [.box 213 [.p (.lst (bl r243.2.code)), .p (I r243.2.at_), .p (I r243.2.seed)]]) [0] [] (c_spec_l01Cur_pick n r243.2 2 _ hr274) (fun K hk => hk) rfl ⟨rfl, rfl, trivial⟩ ⟨⟨rfl, rfl, rfl, rfl, trivial⟩, trivial⟩ rfl ?_
            rintro rs τ' hl' ⟨rfl, rfl⟩
            refine And.intro ?_ ?_
            · refine And.intro (show fits _ _ from ⟨⟨rfl, rfl⟩, ⟨⟨rfl, rfl⟩, trivial⟩⟩) ?_
              refine And.intro (by have q := ixr hx291; simp at q ⊢; omega) ?_
              refine Exists.intro _ (And.intro (gz (gc (show [S ⟨#[78, 117, 109]⟩, S ⟨#[73, 100]⟩] = ([⟨#[78, 117, 109]⟩, ⟨#[73, 100]⟩]).map S by simp) (gm (ixg hx291)))) ?_)
              refine And.intro ?_ ?_
              · refine And.intro (show fits _ _ from ⟨⟨rfl, rfl⟩, ⟨⟨rfl, rfl⟩, ⟨⟨rfl, rfl⟩, trivial⟩⟩⟩) ?_
                refine callW (args' := [.ptr 0 0, .p (I 3)]) (τ0 := [.box 213 [.p (.lst (bl r274.2.code)), .p (I r274.2.at_), .p (I r274.2.seed)]]) [0] [] (c_spec_l01Cur_pick n r274.2 3 _ hr275) (fun K hk => hk) rfl ⟨rfl, rfl, trivial⟩ ⟨⟨rfl, rfl, rfl, rfl, trivial⟩, trivial⟩ rfl ?_
                rintro rs τ' hl' ⟨rfl, rfl⟩
                refine And.intro (by have q := ixr hx292; simp at q ⊢; omega) ?_
                refine Exists.intro _ (And.intro (gz (gc (show [S ⟨#[48]⟩, S ⟨#[49]⟩, S ⟨#[97]⟩] = ([⟨#[48]⟩, ⟨#[49]⟩, ⟨#[97]⟩]).map S by simp) (gm (ixg hx292)))) ?_)
                refine callA (c_spec_l01Leaf n x291 x292 _ hr276) ?_
                replace h := Option.some.inj h
                subst h
                exact ⟨[.p (r276.enc)], [.box 213 [.p (.lst (bl r275.2.code)), .p (I r275.2.at_), .p (I r275.2.seed)]], ⟨[], ⟨rfl, trivial⟩, ⟨⟨rfl, rfl, rfl, rfl, trivial⟩, trivial⟩, rfl⟩, rfl, rfl, rfl⟩
              · skip
                refine callW (args' := [.ptr 0 0, .p (I 3)]) (τ0 := [.box 213 [.p (.lst (bl r274.2.code)), .p (I r274.2.at_), .p (I r274.2.seed)]]) [0] [] (c_spec_l01Cur_pick n r274.2 3 _ hr275) (fun K hk => hk) rfl ⟨rfl, rfl, trivial⟩ ⟨⟨rfl, rfl, rfl, rfl, trivial⟩, trivial⟩ rfl ?_
                rintro rs τ' hl' ⟨rfl, rfl⟩
                refine And.intro (show fits _ _ from ⟨⟨rfl, rfl⟩, ⟨⟨rfl, rfl⟩, ⟨⟨rfl, rfl⟩, trivial⟩⟩⟩) ?_
                refine And.intro (by have q := ixr hx292; simp at q ⊢; omega) ?_
                refine Exists.intro _ (And.intro (gz (gc (show [S ⟨#[48]⟩, S ⟨#[49]⟩, S ⟨#[97]⟩] = ([⟨#[48]⟩, ⟨#[49]⟩, ⟨#[97]⟩]).map S by simp) (gm (ixg hx292)))) ?_)
                refine callA (c_spec_l01Leaf n x291 x292 _ hr276) ?_
                replace h := Option.some.inj h
                subst h
                exact ⟨[.p (r276.enc)], [.box 213 [.p (.lst (bl r275.2.code)), .p (I r275.2.at_), .p (I r275.2.seed)]], ⟨[], ⟨rfl, trivial⟩, ⟨⟨rfl, rfl, rfl, rfl, trivial⟩, trivial⟩, rfl⟩, rfl, rfl, rfl⟩
            · refine And.intro ?_ ?_
              · refine And.intro (show fits _ _ from ⟨⟨rfl, rfl⟩, ⟨⟨rfl, rfl⟩, ⟨⟨rfl, rfl⟩, trivial⟩⟩⟩) ?_
                refine And.intro ?_ ?_
                · refine And.intro (show fits _ _ from ⟨⟨rfl, rfl⟩, ⟨⟨rfl, rfl⟩, trivial⟩⟩) ?_
                  refine And.intro (by have q := ixr hx291; simp at q ⊢; omega) ?_
                  refine Exists.intro _ (And.intro (gz (gc (show [S ⟨#[78, 117, 109]⟩, S ⟨#[73, 100]⟩] = ([⟨#[78, 117, 109]⟩, ⟨#[73, 100]⟩]).map S by simp) (gm (ixg hx291)))) ?_)
                  refine callW (args' := [.ptr 0 0, .p (I 3)]) (τ0 := [.box 213 [.p (.lst (bl r274.2.code)), .p (I r274.2.at_), .p (I r274.2.seed)]]) [0] [] (c_spec_l01Cur_pick n r274.2 3 _ hr275) (fun K hk => hk) rfl ⟨rfl, rfl, trivial⟩ ⟨⟨rfl, rfl, rfl, rfl, trivial⟩, trivial⟩ rfl ?_
                  rintro rs τ' hl' ⟨rfl, rfl⟩
                  refine And.intro (by have q := ixr hx292; simp at q ⊢; omega) ?_
                  refine Exists.intro _ (And.intro (gz (gc (show [S ⟨#[48]⟩, S ⟨#[49]⟩, S ⟨#[97]⟩] = ([⟨#[48]⟩, ⟨#[49]⟩, ⟨#[97]⟩]).map S by simp) (gm (ixg hx292)))) ?_)
                  refine callA (c_spec_l01Leaf n x291 x292 _ hr276) ?_
                  replace h := Option.some.inj h
                  subst h
                  exact ⟨[.p (r276.enc)], [.box 213 [.p (.lst (bl r275.2.code)), .p (I r275.2.at_), .p (I r275.2.seed)]], ⟨[], ⟨rfl, trivial⟩, ⟨⟨rfl, rfl, rfl, rfl, trivial⟩, trivial⟩, rfl⟩, rfl, rfl, rfl⟩
                · skip
                  refine callW (args' := [.ptr 0 0, .p (I 3)]) (τ0 := [.box 213 [.p (.lst (bl r274.2.code)), .p (I r274.2.at_), .p (I r274.2.seed)]]) [0] [] (c_spec_l01Cur_pick n r274.2 3 _ hr275) (fun K hk => hk) rfl ⟨rfl, rfl, trivial⟩ ⟨⟨rfl, rfl, rfl, rfl, trivial⟩, trivial⟩ rfl ?_
                  rintro rs τ' hl' ⟨rfl, rfl⟩
                  refine And.intro (by have q := ixr hx292; simp at q ⊢; omega) ?_
                  refine Exists.intro _ (And.intro (gz (gc (show [S ⟨#[48]⟩, S ⟨#[49]⟩, S ⟨#[97]⟩] = ([⟨#[48]⟩, ⟨#[49]⟩, ⟨#[97]⟩]).map S by simp) (gm (ixg hx292)))) ?_)
                  refine And.intro (show fits _ _ from ⟨⟨rfl, rfl⟩, ⟨⟨rfl, rfl⟩, trivial⟩⟩) ?_
                  refine And.intro (by have q := ixr hx291; simp at q ⊢; omega) ?_
                  refine Exists.intro _ (And.intro (gz (gc (show [S ⟨#[78, 117, 109]⟩, S ⟨#[73, 100]⟩] = ([⟨#[78, 117, 109]⟩, ⟨#[73, 100]⟩]).map S by simp) (gm (ixg hx291)))) ?_)
                  refine callA (c_spec_l01Leaf n x291 x292 _ hr276) ?_
                  replace h := Option.some.inj h
                  subst h
                  exact ⟨[.p (r276.enc)], [.box 213 [.p (.lst (bl r275.2.code)), .p (I r275.2.at_), .p (I r275.2.seed)]], ⟨[], ⟨rfl, trivial⟩, ⟨⟨rfl, rfl, rfl, rfl, trivial⟩, trivial⟩, rfl⟩, rfl, rfl, rfl⟩
              · skip
                refine callW (args' := [.ptr 0 0, .p (I 3)]) (τ0 := [.box 213 [.p (.lst (bl r274.2.code)), .p (I r274.2.at_), .p (I r274.2.seed)]]) [0] [] (c_spec_l01Cur_pick n r274.2 3 _ hr275) (fun K hk => hk) rfl ⟨rfl, rfl, trivial⟩ ⟨⟨rfl, rfl, rfl, rfl, trivial⟩, trivial⟩ rfl ?_
                rintro rs τ' hl' ⟨rfl, rfl⟩
                refine And.intro ?_ ?_
                · refine And.intro (show fits _ _ from ⟨⟨rfl, rfl⟩, ⟨⟨rfl, rfl⟩, trivial⟩⟩) ?_
                  refine And.intro (by have q := ixr hx291; simp at q ⊢; omega) ?_
                  refine Exists.intro _ (And.intro (gz (gc (show [S ⟨#[78, 117, 109]⟩, S ⟨#[73, 100]⟩] = ([⟨#[78, 117, 109]⟩, ⟨#[73, 100]⟩]).map S by simp) (gm (ixg hx291)))) ?_)
                  refine And.intro (show fits _ _ from ⟨⟨rfl, rfl⟩, ⟨⟨rfl, rfl⟩, ⟨⟨rfl, rfl⟩, trivial⟩⟩⟩) ?_
                  refine And.intro (by have q := ixr hx292; simp at q ⊢; omega) ?_
                  refine Exists.intro _ (And.intro (gz (gc (show [S ⟨#[48]⟩, S ⟨#[49]⟩, S ⟨#[97]⟩] = ([⟨#[48]⟩, ⟨#[49]⟩, ⟨#[97]⟩]).map S by simp) (gm (ixg hx292)))) ?_)
                  refine callA (c_spec_l01Leaf n x291 x292 _ hr276) ?_
                  replace h := Option.some.inj h
                  subst h
                  exact ⟨[.p (r276.enc)], [.box 213 [.p (.lst (bl r275.2.code)), .p (I r275.2.at_), .p (I r275.2.seed)]], ⟨[], ⟨rfl, trivial⟩, ⟨⟨rfl, rfl, rfl, rfl, trivial⟩, trivial⟩, rfl⟩, rfl, rfl, rfl⟩
                · refine And.intro (show fits _ _ from ⟨⟨rfl, rfl⟩, ⟨⟨rfl, rfl⟩, ⟨⟨rfl, rfl⟩, trivial⟩⟩⟩) ?_
                  refine And.intro (by have q := ixr hx292; simp at q ⊢; omega) ?_
                  refine Exists.intro _ (And.intro (gz (gc (show [S ⟨#[48]⟩, S ⟨#[49]⟩, S ⟨#[97]⟩] = ([⟨#[48]⟩, ⟨#[49]⟩, ⟨#[97]⟩]).map S by simp) (gm (ixg hx292)))) ?_)
                  refine And.intro (show fits _ _ from ⟨⟨rfl, rfl⟩, ⟨⟨rfl, rfl⟩, trivial⟩⟩) ?_
                  refine And.intro (by have q := ixr hx291; simp at q ⊢; omega) ?_
                  refine Exists.intro _ (And.intro (gz (gc (show [S ⟨#[78, 117, 109]⟩, S ⟨#[73, 100]⟩] = ([⟨#[78, 117, 109]⟩, ⟨#[73, 100]⟩]).map S by simp) (gm (ixg hx291)))) ?_)
                  refine callA (c_spec_l01Leaf n x291 x292 _ hr276) ?_
                  replace h := Option.some.inj h
                  subst h
                  exact ⟨[.p (r276.enc)], [.box 213 [.p (.lst (bl r275.2.code)), .p (I r275.2.at_), .p (I r275.2.seed)]], ⟨[], ⟨rfl, trivial⟩, ⟨⟨rfl, rfl, rfl, rfl, trivial⟩, trivial⟩, rfl⟩, rfl, rfl, rfl⟩
          · refine And.intro (show fits _ _ from ⟨⟨rfl, rfl⟩, ⟨⟨rfl, rfl⟩, ⟨⟨rfl, rfl⟩, trivial⟩⟩⟩) ?_
            refine And.intro ?_ ?_
            · refine And.intro (show fits _ _ from ⟨⟨rfl, rfl⟩, ⟨⟨rfl, rfl⟩, trivial⟩⟩) ?_
              refine callW (args' := [.ptr 0 0, .p (I 2)]) (τ0 := [.box 213 [.p (.lst (bl r243.2.code)), .p (I r243.2.at_), .p (I r243.2.seed)]]) [0] [] (c_spec_l01Cur_pick n r243.2 2 _ hr274) (fun K hk => hk) rfl ⟨rfl, rfl, trivial⟩ ⟨⟨rfl, rfl, rfl, rfl, trivial⟩, trivial⟩ rfl ?_
              rintro rs τ' hl' ⟨rfl, rfl⟩
              refine And.intro (by have q := ixr hx291; simp at q ⊢; omega) ?_
              refine Exists.intro _ (And.intro (gz (gc (show [S ⟨#[78, 117, 109]⟩, S ⟨#[73, 100]⟩] = ([⟨#[78, 117, 109]⟩, ⟨#[73, 100]⟩]).map S by simp) (gm (ixg hx291)))) ?_)
              refine callW (args' := [.ptr 0 0, .p (I 3)]) (τ0 := [.box 213 [.p (.lst (bl r274.2.code)), .p (I r274.2.at_), .p (I r274.2.seed)]]) [0] [] (c_spec_l01Cur_pick n r274.2 3 _ hr275) (fun K hk => hk) rfl ⟨rfl, rfl, trivial⟩ ⟨⟨rfl, rfl, rfl, rfl, trivial⟩, trivial⟩ rfl ?_
              rintro rs τ' hl' ⟨rfl, rfl⟩
              refine And.intro (by have q := ixr hx292; simp at q ⊢; omega) ?_
              refine Exists.intro _ (And.intro (gz (gc (show [S ⟨#[48]⟩, S ⟨#[49]⟩, S ⟨#[97]⟩] = ([⟨#[48]⟩, ⟨#[49]⟩, ⟨#[97]⟩]).map S by simp) (gm (ixg hx292)))) ?_)
              refine callA (c_spec_l01Leaf n x291 x292 _ hr276) ?_
              replace h := Option.some.inj h
              subst h
              exact ⟨[.p (r276.enc)], [.box 213 [.p (.lst (bl r275.2.code)), .p (I r275.2.at_), .p (I r275.2.seed)]], ⟨[], ⟨rfl, trivial⟩, ⟨⟨rfl, rfl, rfl, rfl, trivial⟩, trivial⟩, rfl⟩, rfl, rfl, rfl⟩
            · skip
              refine callW (args' := [.ptr 0 0, .p (I 2)]) (τ0 := [.box 213 [.p (.lst (bl r243.2.code)), .p (I r243.2.at_), .p (I r243.2.seed)]]) [0] [] (c_spec_l01Cur_pick n r243.2 2 _ hr274) (fun K hk => hk) rfl ⟨rfl, rfl, trivial⟩ ⟨⟨rfl, rfl, rfl, rfl, trivial⟩, trivial⟩ rfl ?_
              rintro rs τ' hl' ⟨rfl, rfl⟩
              refine And.intro ?_ ?_
              · refine And.intro (show fits _ _ from ⟨⟨rfl, rfl⟩, ⟨⟨rfl, rfl⟩, trivial⟩⟩) ?_
                refine And.intro (by have q := ixr hx291; simp at q ⊢; omega) ?_
                refine Exists.intro _ (And.intro (gz (gc (show [S ⟨#[78, 117, 109]⟩, S ⟨#[73, 100]⟩] = ([⟨#[78, 117, 109]⟩, ⟨#[73, 100]⟩]).map S by simp) (gm (ixg hx291)))) ?_)
                refine callW (args' := [.ptr 0 0, .p (I 3)]) (τ0 := [.box 213 [.p (.lst (bl r274.2.code)), .p (I r274.2.at_), .p (I r274.2.seed)]]) [0] [] (c_spec_l01Cur_pick n r274.2 3 _ hr275) (fun K hk => hk) rfl ⟨rfl, rfl, trivial⟩ ⟨⟨rfl, rfl, rfl, rfl, trivial⟩, trivial⟩ rfl ?_
                rintro rs τ' hl' ⟨rfl, rfl⟩
                refine And.intro (by have q := ixr hx292; simp at q ⊢; omega) ?_
                refine Exists.intro _ (And.intro (gz (gc (show [S ⟨#[48]⟩, S ⟨#[49]⟩, S ⟨#[97]⟩] = ([⟨#[48]⟩, ⟨#[49]⟩, ⟨#[97]⟩]).map S by simp) (gm (ixg hx292)))) ?_)
                refine callA (c_spec_l01Leaf n x291 x292 _ hr276) ?_
                replace h := Option.some.inj h
                subst h
                exact ⟨[.p (r276.enc)], [.box 213 [.p (.lst (bl r275.2.code)), .p (I r275.2.at_), .p (I r275.2.seed)]], ⟨[], ⟨rfl, trivial⟩, ⟨⟨rfl, rfl, rfl, rfl, trivial⟩, trivial⟩, rfl⟩, rfl, rfl, rfl⟩
              · skip
                refine callW (args' := [.ptr 0 0, .p (I 3)]) (τ0 := [.box 213 [.p (.lst (bl r274.2.code)), .p (I r274.2.at_), .p (I r274.2.seed)]]) [0] [] (c_spec_l01Cur_pick n r274.2 3 _ hr275) (fun K hk => hk) rfl ⟨rfl, rfl, trivial⟩ ⟨⟨rfl, rfl, rfl, rfl, trivial⟩, trivial⟩ rfl ?_
                rintro rs τ' hl' ⟨rfl, rfl⟩
                refine And.intro (by have q := ixr hx292; simp at q ⊢; omega) ?_
                refine Exists.intro _ (And.intro (gz (gc (show [S ⟨#[48]⟩, S ⟨#[49]⟩, S ⟨#[97]⟩] = ([⟨#[48]⟩, ⟨#[49]⟩, ⟨#[97]⟩]).map S by simp) (gm (ixg hx292)))) ?_)
                refine And.intro (show fits _ _ from ⟨⟨rfl, rfl⟩, ⟨⟨rfl, rfl⟩, trivial⟩⟩) ?_
                refine And.intro (by have q := ixr hx291; simp at q ⊢; omega) ?_
                refine Exists.intro _ (And.intro (gz (gc (show [S ⟨#[78, 117, 109]⟩, S ⟨#[73, 100]⟩] = ([⟨#[78, 117, 109]⟩, ⟨#[73, 100]⟩]).map S by simp) (gm (ixg hx291)))) ?_)
                refine callA (c_spec_l01Leaf n x291 x292 _ hr276) ?_
                replace h := Option.some.inj h
                subst h
                exact ⟨[.p (r276.enc)], [.box 213 [.p (.lst (bl r275.2.code)), .p (I r275.2.at_), .p (I r275.2.seed)]], ⟨[], ⟨rfl, trivial⟩, ⟨⟨rfl, rfl, rfl, rfl, trivial⟩, trivial⟩, rfl⟩, rfl, rfl, rfl⟩
      · replace h := cF h c
        refine .inl ?_
        refine And.intro (show fits _ _ from trivial) ?_
        refine .inr ⟨Cu × List Tree, fun x => ([(0, .ptr 0 0), (4, .ptr 1 0), (5, .row 2 4 0 x.2.length)], [.box 213 [.p (.lst (bl x.1.code)), .p (I x.1.at_), .p (I x.1.seed)], .box 31 [.p (S ⟨#[]⟩), .p (S ⟨#[]⟩), .p (B false), .tl []], .row 31 4 (encM x.2)]), fun x => m_spec_l11DrawPattern_j2 n x.1 x.2 = some r, ?_, ?_⟩
        · refine .inl ?_
          obtain ⟨r308, hr308, h⟩ := bsm h
          refine callW (args' := [.ptr 0 0, .p (I 3)]) (τ0 := [.box 213 [.p (.lst (bl r243.2.code)), .p (I r243.2.at_), .p (I r243.2.seed)]]) [0] [] (c_spec_l01Cur_pick n r243.2 3 _ hr308) (fun K hk => hk) rfl ⟨rfl, rfl, trivial⟩ ⟨⟨rfl, rfl, rfl, rfl, trivial⟩, trivial⟩ rfl ?_
          rintro rs τ' hl' ⟨rfl, rfl⟩
          refine ⟨Int × Cu × List Tree, fun x => ([(0, .ptr 0 0), (1, .p (I a50)), (4, .ptr 1 0), (5, .row 2 4 0 x.2.2.length), (6, .p (I x.1))], [.box 213 [.p (.lst (bl x.2.1.code)), .p (I x.2.1.at_), .p (I x.2.1.seed)], .box 31 [.p (S ⟨#[]⟩), .p (S ⟨#[]⟩), .p (B false), .tl []], .row 31 4 (encM x.2.2)]), fun x k => m_spec_l11DrawPattern_l3 (m_spec_l11DrawPattern n) n a50 k x.1 x.2.1 x.2.2 = some r, ⟨(r308.1, r308.2, []), n, h, [], ⟨rfl, rfl, rfl, (congrArg (AV.row 2 4 0) (show [].length = 0 by simp)), rfl, trivial⟩, ⟨⟨rfl, rfl, rfl, rfl, trivial⟩, ⟨rfl, rfl, rfl, rfl, rfl, trivial⟩, (congrArg (Bk.row 31 4) (show encM [] = [] by simp)), trivial⟩, rfl⟩, ?_⟩
          rintro ⟨v156, v157, v158⟩ (_ | k3) h
          · exact ns h
          unfold m_spec_l11DrawPattern_l3 at h
          refine .inl ?_
          refine .inl ?_
          refine And.intro (fun c => ?_) (fun c => ?_)
          · replace h := cT h c
            refine .inl ?_
            obtain ⟨r311, hr311, h⟩ := bsm h
            refine callW (args' := [.ptr 0 0, .p (I (wr .i64 (a50 - 1)))]) (τ0 := [.box 213 [.p (.lst (bl v157.code)), .p (I v157.at_), .p (I v157.seed)]]) [0] [] (ih_spec_l11DrawPattern v157 (wr .i64 (a50 - 1)) _ hr311) (fun K hk => hk) rfl ⟨rfl, rfl, trivial⟩ ⟨⟨rfl, rfl, rfl, rfl, trivial⟩, trivial⟩ rfl ?_
            rintro rs τ' hl' ⟨rfl, rfl⟩
            refine And.intro (show fits _ _ from ⟨⟨rfl, rfl⟩, trivial⟩) ?_
            obtain ⟨g6, h⟩ := gpT h
            refine Exists.intro ([r311.1.enc]) (And.intro (rowN rfl rfl) ?_)
            refine Exists.intro (encM v158) (And.intro (rowX (rowN rfl (show v158.length = (encM v158).length by simp)) (show fits _ _ from ⟨⟨rfl, rfl⟩, trivial⟩) (appfitJ (by first | simpa using g6 | (simp at g6 ⊢; omega)) rfl)) ?_)
            exact ⟨((wr .i64 (v156 - 1)), r311.2, (v158 ++ [r311.1])), k3, h, Nat.lt_succ_self _, [], ⟨rfl, rfl, rfl, (congrArg (AV.row 2 4 0) (show (v158 ++ [r311.1]).length = (v158.length + ([r311.1.enc] : List PV).length) by simp)), rfl, trivial⟩, ⟨⟨rfl, rfl, rfl, rfl, trivial⟩, ⟨rfl, rfl, rfl, rfl, rfl, trivial⟩, (congrArg (Bk.row 31 4) (show encM (v158 ++ [r311.1]) = (encM v158) ++ [r311.1.enc] by simp)), trivial⟩, rfl⟩
          · replace h := cF h c
            exact ⟨(v157, v158), h, [], ⟨rfl, rfl, rfl, trivial⟩, ⟨⟨rfl, rfl, rfl, rfl, trivial⟩, ⟨rfl, rfl, rfl, rfl, rfl, trivial⟩, rfl, trivial⟩, rfl⟩
        · rintro ⟨v154, v155⟩ h
          unfold m_spec_l11DrawPattern_j2 at h
          refine .inl ?_
          refine And.intro (show fits _ _ from ⟨⟨rfl, rfl⟩, ⟨⟨rfl, rfl⟩, ⟨⟨rfl, rfl⟩, trivial⟩⟩⟩) ?_
          obtain ⟨r306, hr306, h⟩ := bsm h
          refine callW (args' := [.ptr 0 0, .p (I 3)]) (τ0 := [.box 213 [.p (.lst (bl v154.code)), .p (I v154.at_), .p (I v154.seed)]]) [0] [] (c_spec_l01Cur_pick n v154 3 _ hr306) (fun K hk => hk) rfl ⟨rfl, rfl, trivial⟩ ⟨⟨rfl, rfl, rfl, rfl, trivial⟩, trivial⟩ rfl ?_
          rintro rs τ' hl' ⟨rfl, rfl⟩
          obtain ⟨x313, hx313, h⟩ := bsm h
          refine And.intro (by have q := ixr hx313; simp at q ⊢; omega) ?_
          refine Exists.intro _ (And.intro (gz (gc (show [S ⟨#[65, 100, 100]⟩, S ⟨#[77, 117, 108]⟩, S ⟨#[78, 101, 103]⟩] = ([⟨#[65, 100, 100]⟩, ⟨#[77, 117, 108]⟩, ⟨#[78, 101, 103]⟩]).map S by simp) (gm (ixg hx313)))) ?_)
          obtain ⟨r307, hr307, h⟩ := bsm h
          refine callP (c_spec_l01Node n x313 v155 _ hr307) (fun K hk => Exists.intro _ (And.intro (rowN rfl (show v155.length = (encM v155).length by simp)) hk)) ?_
          replace h := Option.some.inj h
          subst h
          exact ⟨[.p (r307.enc)], [.box 213 [.p (.lst (bl r306.2.code)), .p (I r306.2.at_), .p (I r306.2.seed)]], ⟨[], ⟨rfl, trivial⟩, ⟨⟨rfl, rfl, rfl, rfl, trivial⟩, trivial⟩, rfl⟩, rfl, rfl, rfl⟩
def m_spec_l11DrawSpoiltPattern (n : Nat) (a51 : Cu) : Option (Tree × Cu) :=
  (m_spec_l11DrawPattern n a51 2).bind fun r312 =>
  (m_spec_l01Cur_pick n r312.2 12).bind fun r313 =>
  bif (r313.1 == 0) then (
    (m_spec_l01DrawAny n r313.2).bind fun r314 =>
    some (r314.1, r314.2))
  else (
    bif (r313.1 == 1) then (
      (m_spec_l01Leaf n ⟨#[86, 97, 114]⟩ ⟨#[49]⟩).bind fun r317 =>
      (m_spec_l01Node n ⟨#[65, 100, 100]⟩ [r312.1, r317]).bind fun r318 =>
      some (r318, r313.2))
    else (
      some (r312.1, r313.2)))
theorem c_spec_l11DrawSpoiltPattern (n : Nat) (a51 : Cu) (r : Tree × Cu) (h : m_spec_l11DrawSpoiltPattern n a51 = some r) : Sy.Fn Try.prog 76 [.ptr 0 0] [.box 213 [.p (.lst (bl a51.code)), .p (I a51.at_), .p (I a51.seed)]] (fun rs τ' => rs = [.p (r.1.enc)] ∧ τ' = [.box 213 [.p (.lst (bl r.2.code)), .p (I r.2.at_), .p (I r.2.seed)]]) := by
  unfold m_spec_l11DrawSpoiltPattern at h
  refine fn_introJ Try.func76 rfl rfl rfl ?_
  refine .inl ?_
  refine .inl ?_
  obtain ⟨r312, hr312, h⟩ := bsm h
  refine callW (args' := [.ptr 0 0, .p (I 2)]) (τ0 := [.box 213 [.p (.lst (bl a51.code)), .p (I a51.at_), .p (I a51.seed)]]) [0] [] (c_spec_l11DrawPattern n a51 2 _ hr312) (fun K hk => hk) rfl ⟨rfl, rfl, trivial⟩ ⟨⟨rfl, rfl, rfl, rfl, trivial⟩, trivial⟩ rfl ?_
  rintro rs τ' hl' ⟨rfl, rfl⟩
  refine .inl ?_
  refine .inl ?_
  obtain ⟨r313, hr313, h⟩ := bsm h
  refine callW (args' := [.ptr 0 0, .p (I 12)]) (τ0 := [.box 213 [.p (.lst (bl r312.2.code)), .p (I r312.2.at_), .p (I r312.2.seed)]]) [0] [] (c_spec_l01Cur_pick n r312.2 12 _ hr313) (fun K hk => hk) rfl ⟨rfl, rfl, trivial⟩ ⟨⟨rfl, rfl, rfl, rfl, trivial⟩, trivial⟩ rfl ?_
  rintro rs τ' hl' ⟨rfl, rfl⟩
  refine .inl ?_
  refine And.intro (fun c => ?_) (fun c => ?_)
  · replace h := cT h c
    obtain ⟨r314, hr314, h⟩ := bsm h
    refine callW (args' := [.ptr 0 0]) (τ0 := [.box 213 [.p (.lst (bl r313.2.code)), .p (I r313.2.at_), .p (I r313.2.seed)]]) [0] [] (c_spec_l01DrawAny n r313.2 _ hr314) (fun K hk => hk) rfl ⟨rfl, trivial⟩ ⟨⟨rfl, rfl, rfl, rfl, trivial⟩, trivial⟩ rfl ?_
    rintro rs τ' hl' ⟨rfl, rfl⟩
    refine .inl ?_
    replace h := Option.some.inj h
    subst h
    exact ⟨[.p (r314.1.enc)], [.box 213 [.p (.lst (bl r314.2.code)), .p (I r314.2.at_), .p (I r314.2.seed)]], ⟨[], ⟨rfl, trivial⟩, ⟨⟨rfl, rfl, rfl, rfl, trivial⟩, trivial⟩, rfl⟩, rfl, rfl, rfl⟩
  · replace h := cF h c
    refine .inl ?_
    refine And.intro (fun c => ?_) (fun c => ?_)
    · replace h := cT h c
      refine ⟨[0, 1, 2, 3, 1004], [], by decide +kernel, ?_⟩
      obtain ⟨r317, hr317, h⟩ := bsm h
      refine callA (c_spec_l01Leaf n ⟨#[86, 97, 114]⟩ ⟨#[49]⟩ _ hr317) ?_
      refine And.intro (show fits _ _ from ⟨⟨rfl, rfl⟩, ⟨⟨rfl, rfl⟩, trivial⟩⟩) ?_
      obtain ⟨r318, hr318, h⟩ := bsm h
      refine callP (c_spec_l01Node n ⟨#[65, 100, 100]⟩ [r312.1, r317] _ hr318) (fun K hk => Exists.intro _ (And.intro (rowN (show [r312.1.enc, r317.enc] = encM [r312.1, r317] by simp) (show 2 = (encM [r312.1, r317]).length by simp)) hk)) ?_
      refine .inl ?_
      replace h := Option.some.inj h
      subst h
      exact ⟨[.p (r318.enc)], [.box 213 [.p (.lst (bl r313.2.code)), .p (I r313.2.at_), .p (I r313.2.seed)]], ⟨[], ⟨rfl, trivial⟩, ⟨⟨rfl, rfl, rfl, rfl, trivial⟩, trivial⟩, rfl⟩, rfl, rfl, rfl⟩
    · replace h := cF h c
      refine .inl ?_
      replace h := Option.some.inj h
      subst h
      exact ⟨[.p (r312.1.enc)], [.box 213 [.p (.lst (bl r313.2.code)), .p (I r313.2.at_), .p (I r313.2.seed)]], ⟨[], ⟨rfl, trivial⟩, ⟨⟨rfl, rfl, rfl, rfl, trivial⟩, trivial⟩, rfl⟩, rfl, rfl, rfl⟩
def m_spec_l11DrawTerm_j2 (self_spec_l11DrawTerm : Cu → Int → Option (Tree × Cu)) (n : Nat) (a53 : Int) (v164 : Bool) (v165 : Cu) : Option (Tree × Cu) :=
  bif v164 then (
    (m_spec_l01Cur_pick n v165 2).bind fun r406 =>
    (ix ([⟨#[78, 117, 109]⟩, ⟨#[73, 100]⟩]) r406.1).bind fun x380 =>
    (m_spec_l01Cur_pick n r406.2 3).bind fun r407 =>
    (ix ([⟨#[48]⟩, ⟨#[49]⟩, ⟨#[97]⟩]) r407.1).bind fun x381 =>
    (m_spec_l01Leaf n x380 x381).bind fun r408 =>
    some (r408, r407.2))
  else (
    (m_spec_l01Cur_pick n v165 3).bind fun r434 =>
    bif (r434.1 == 2) then (
      (self_spec_l11DrawTerm r434.2 (wr .i64 (a53 - 1))).bind fun r435 =>
      (m_spec_l01Node n ⟨#[78, 101, 103]⟩ [r435.1]).bind fun r436 =>
      some (r436, r435.2))
    else (
      (ix ([⟨#[65, 100, 100]⟩, ⟨#[77, 117, 108]⟩]) r434.1).bind fun x406 =>
      (self_spec_l11DrawTerm r434.2 (wr .i64 (a53 - 1))).bind fun r446 =>
      (self_spec_l11DrawTerm r446.2 (wr .i64 (a53 - 1))).bind fun r447 =>
      (m_spec_l01Node n x406 [r446.1, r447.1]).bind fun r448 =>
      some (r448, r447.2)))
def m_spec_l11DrawTerm : Nat → Cu → Int → Option (Tree × Cu)
  | 0, _, _ => none
  | n + 1, a52, a53 =>
    bif (decide (a53 ≤ 0)) then (
      m_spec_l11DrawTerm_j2 (m_spec_l11DrawTerm n) n a53 true a52)
    else (
      (m_spec_l01Cur_pick n a52 4).bind fun r455 =>
      m_spec_l11DrawTerm_j2 (m_spec_l11DrawTerm n) n a53 (r455.1 == 0) r455.2)
theorem c_spec_l11DrawTerm : ∀ (n : Nat) (a52 : Cu) (a53 : Int) (r : Tree × Cu) (h : m_spec_l11DrawTerm n a52 a53 = some r), Sy.Fn Try.prog 77 [.ptr 0 0, .p (I a53)] [.box 213 [.p (.lst (bl a52.code)), .p (I a52.at_), .p (I a52.seed)]] (fun rs τ' => rs = [.p (r.1.enc)] ∧ τ' = [.box 213 [.p (.lst (bl r.2.code)), .p (I r.2.at_), .p (I r.2.seed)]])
  | 0, _, _, r, h => ns h
  | n + 1, a52, a53, r, h => by
    have ih_spec_l11DrawTerm := c_spec_l11DrawTerm n
    unfold m_spec_l11DrawTerm at h
    refine fn_introJ Try.func77 rfl rfl rfl ?_
    refine .inl ?_
    refine .inl ?_
    refine .inr ⟨Bool × Cu, fun x => ([(0, .ptr 0 0), (1, .p (I a53)), (4, .ptr 1 0), (12, .p (B x.1))], [.box 213 [.p (.lst (bl x.2.code)), .p (I x.2.at_), .p (I x.2.seed)], .box 31 [.p (S ⟨#[]⟩), .p (S ⟨#[]⟩), .p (B false), .tl []]]), fun x => m_spec_l11DrawTerm_j2 (m_spec_l11DrawTerm n) n a53 x.1 x.2 = some r, ?_, ?_⟩
    · refine And.intro (fun c => ?_) (fun c => ?_)
      · replace h := cF h c
        refine And.intro (fun _ => ?_) (fun c => absurd c (by decide))
        obtain ⟨r455, hr455, h⟩ := bsm h
        refine callW (args' := [.ptr 0 0, .p (I 4)]) (τ0 := [.box 213 [.p (.lst (bl a52.code)), .p (I a52.at_), .p (I a52.seed)]]) [0] [] (c_spec_l01Cur_pick n a52 4 _ hr455) (fun K hk => hk) rfl ⟨rfl, rfl, trivial⟩ ⟨⟨rfl, rfl, rfl, rfl, trivial⟩, trivial⟩ rfl ?_
        rintro rs τ' hl' ⟨rfl, rfl⟩
        refine And.intro (fun _ => ?_) (fun c => absurd c (by decide))
        refine And.intro (fun c => absurd c (by decide)) (fun _ => ?_)
        exact ⟨((r455.1 == 0), r455.2), h, [], ⟨rfl, rfl, rfl, rfl, trivial⟩, ⟨⟨rfl, rfl, rfl, rfl, trivial⟩, ⟨rfl, rfl, rfl, rfl, rfl, trivial⟩, trivial⟩, rfl⟩
      · replace h := cT h c
        refine And.intro (fun c => absurd c (by decide)) (fun _ => ?_)
        refine And.intro (fun c => absurd c (by decide)) (fun _ => ?_)
        refine And.intro (fun _ => ?_) (fun c => absurd c (by decide))
        exact ⟨(true, a52), h, [], ⟨rfl, rfl, rfl, rfl, trivial⟩, ⟨⟨rfl, rfl, rfl, rfl, trivial⟩, ⟨rfl, rfl, rfl, rfl, rfl, trivial⟩, trivial⟩, rfl⟩
    · rintro ⟨v164, v165⟩ h
      unfold m_spec_l11DrawTerm_j2 at h
      refine And.intro (fun c => ?_) (fun c => ?_)
      · replace h := cT h c
        refine .inl ?_
        refine ⟨[1, 6, 5000, 6000, 6000, 6000, 6000, 6000, 6000, 6000, 6000, 6000, 6000, 6000, 6000, 6000, 6000, 6000, 6000, 6000, 6000, 6000, 6000, 6000, 6000, 6000, 6000, 6000, 6000, 6000, 6000, 6000, 6000, 6000, 6000, 6000, 6000, 6000, 6000, 6000, 6000, 6000, 6000, 6000, 6000, 6000, 6000, 6000, 6000, 6000, 6000, 6000, 6000, 6000, 6000, 6000, 6000, 6000, 6000, 6000, 6000, 6000, 6000, 6000, 6000, 6000, 6000, 6000, 6000, 6000, 6000, 6000, 6000, 6000, 6000, 6000, 6000, 6000, 6000, 6000, 6000, 6000, 6000, 6000, 6000, 6000, 6000, 6000, 6000, 6000, 6000, 6000, 6000, 6000, 6000, 6000, 6000, 6000, 6000, 6000, 6000, 6000, 6000, 6000, 6000, 6000, 6000, 6000, 6000, 6000, 6000, 6000, 6000, 6000, 6000, 6000, 6000, 6000, 6000, 6000, 6000, 6000, 0, 5000, 2, 3, 4, 5000, 5, 7, 8, 9, 10, 1011, 7, 5, 8, 9, 10, 1011, 6000, 6000, 6000, 6000, 6000, 6000, 6000, 5, 2, 3, 4, 7, 8, 9, 10, 1011, 5000, 2, 5000, 6000, 6000, 6000, 6000, 6000, 6000, 6000, 6000, 6000, 6000, 6000, 6000, 6000, 6000, 6000, 6000, 6000, 6000, 6000, 6000, 6000, 0, 3, 4, 5000, 5, 7, 8, 9, 10, 1011, 7, 5, 8, 9, 10, 1011, 5000, 5, 5000, 0, 3, 4, 7, 8, 9, 10, 1011, 7, 8, 9, 0, 3, 4, 10, 1011, 7, 5000, 0, 3, 4, 5, 8, 9, 10, 1011, 5, 8, 9, 0, 3, 4, 10, 1011, 6000, 6000, 6000, 6000, 6000, 6000, 6000, 6000, 6000, 6000, 6000, 6000, 6000, 6000, 6000, 6000, 6000, 6000, 6000, 6000, 6000, 6000, 6000, 6000, 6000, 6000, 6000, 6000, 6000, 6000, 6000, 6000, 6000, 6000, 6000, 6000, 6000, 6000, 5, 5000, 6000, 6000, 6000, 6000, 6000, 6000, 6000, 6000, 6000, 0, 2, 3, 4, 7, 8, 9, 10, 1011, 2, 5000, 0, 3, 4, 7, 8, 9, 10, 1011, 7, 8, 9, 0, 3, 4, 10, 1011], [0], by decide +kernel, ?_⟩
        obtain ⟨r406, hr406, h⟩ := bsm h
        obtain ⟨x380, hx380, h⟩ := bsm h
        obtain ⟨r407, hr407, h⟩ := bsm h
        obtain ⟨x381, hx381, h⟩ := bsm h
        obtain ⟨r408, hr408, h⟩ := bsm h
        refine And.intro ?_ ?_
        · refine And.intro (show fits _ _ from ⟨⟨rfl, rfl⟩, ⟨⟨rfl, rfl⟩, trivial⟩⟩) ?_
          refine And.intro ?_ ?_
          · skip
            refine callW (args' := [.ptr 0 0, .p (I 2)]) (τ0 := [.box 213 [.p (.lst (bl v165.code)), .p (I v165.at_), .p (I v165.seed)]]) [0] [] (c_spec_l01Cur_pick n v165 2 _ hr406) (fun K hk => hk) rfl ⟨rfl, rfl, trivial⟩ ⟨⟨rfl, rfl, rfl, rfl, trivial⟩, trivial⟩ rfl ?_
            rintro rs τ' hl' ⟨rfl, rfl⟩
            refine And.intro (by have q := ixr hx380; simp at q ⊢; omega) ?_
            refine Exists.intro _ (And.intro (gz (gc (show [S ⟨#[78, 117, 109]⟩, S ⟨#[73, 100]⟩] = ([⟨#[78, 117, 109]⟩, ⟨#[73, 100]⟩]).map S by simp) (gm (ixg hx380)))) ?_)
            refine And.intro ?_ ?_
            · refine And.intro (show fits _ _ from ⟨⟨rfl, rfl⟩, ⟨⟨rfl, rfl⟩, ⟨⟨rfl, rfl⟩, trivial⟩⟩⟩) ?_
              refine callW (args' := [.ptr 0 0, .p (I 3)]) (τ0 := [.box 213 [.p (.lst (bl r406.2.code)), .p (I r406.2.at_), .p (I r406.2.seed)]]) [0] [] (c_spec_l01Cur_pick n r406.2 3 _ hr407) (fun K hk => hk) rfl ⟨rfl, rfl, trivial⟩ ⟨⟨rfl, rfl, rfl, rfl, trivial⟩, trivial⟩ rfl ?_
              rintro rs τ' hl' ⟨rfl, rfl⟩
              refine And.intro (by have q := ixr hx381; simp at q ⊢; omega) ?_
              refine Exists.intro _ (And.intro (gz (gc (show [S ⟨#[48]⟩, S ⟨#[49]⟩, S ⟨#[97]⟩] = ([⟨#[48]⟩, ⟨#[49]⟩, ⟨#[97]⟩]).map S by simp) (gm (ixg hx381)))) ?_)
              refine callA (c_spec_l01Leaf n x380 x381 _ hr408) ?_
              replace h := Option.some.inj h
              subst h
              exact ⟨[.p (r408.enc)], [.box 213 [.p (.lst (bl r407.2.code)), .p (I r407.2.at_), .p (I r407.2.seed)]], ⟨[], ⟨rfl, trivial⟩, ⟨⟨rfl, rfl, rfl, rfl, trivial⟩, trivial⟩, rfl⟩, rfl, rfl, rfl⟩
            · skip
              refine callW (args' := [.ptr 0 0, .p (I 3)]) (τ0 := [.box 213 [.p (.lst (bl r406.2.code)), .p (I r406.2.at_), .p (I r406.2.seed)]]) [0] [] (c_spec_l01Cur_pick n r406.2 3 _ hr407) (fun K hk => hk) rfl ⟨rfl, rfl, trivial⟩ ⟨⟨rfl, rfl, rfl, rfl, trivial⟩, trivial⟩ rfl ?_
              rintro rs τ' hl' ⟨rfl, rfl⟩
              refine And.intro (show fits _ _ from ⟨⟨rfl, rfl⟩, ⟨⟨rfl, rfl⟩, ⟨⟨rfl, rfl⟩, trivial⟩⟩⟩) ?_
              refine And.intro (by have q := ixr hx381; simp at q ⊢; omega) ?_
              refine Exists.intro _ (And.intro (gz (gc (show [S ⟨#[48]⟩, S ⟨#[49]⟩, S ⟨#[97]⟩] = ([⟨#[48]⟩, ⟨#[49]⟩, ⟨#[97]⟩]).map S by simp) (gm (ixg hx381)))) ?_)
              refine callA (c_spec_l01Leaf n x380 x381 _ hr408) ?_
              replace h := Option.some.inj h
              subst h
              exact ⟨[.p (r408.enc)], [.box 213 [.p (.lst (bl r407.2.code)), .p (I r407.2.at_), .p (I r407.2.seed)]], ⟨[], ⟨rfl, trivial⟩, ⟨⟨rfl, rfl, rfl, rfl, trivial⟩, trivial⟩, rfl⟩, rfl, rfl, rfl⟩
          · refine And.intro (show fits _ _ from ⟨⟨rfl, rfl⟩, ⟨⟨rfl, rfl⟩, ⟨⟨rfl, rfl⟩, trivial⟩⟩⟩) ?_
            refine callW (args' := [.ptr 0 0, .p (I 2)]) (τ0 := [.box 213 [.p (.lst (bl v165.code)), .p (I v165.at_), .p (I v165.seed)]]) [0] [] (c_spec_l01Cur_pick n v165 2 _ hr406) (fun K hk => hk) rfl ⟨rfl, rfl, trivial⟩ ⟨⟨rfl, rfl, rfl, rfl, trivial⟩, trivial⟩ rfl ?_
            rintro rs τ' hl' ⟨rfl, rfl⟩
            refine And.intro (by have q := ixr hx380; simp at q ⊢; omega) ?_
            refine Exists.intro _ (And.intro (gz (gc (show [S ⟨#[78, 117, 109]⟩, S ⟨#[73, 100]⟩] = ([⟨#[78, 117, 109]⟩, ⟨#[73, 100]⟩]).map S by simp) (gm (ixg hx380)))) ?_)
            refine callW (args' := [.ptr 0 0, .p (I 3)]) (τ0 := [.box 213 [.p (.lst (bl r406.2.code)), .p (I r406.2.at_), .p (I r406.2.seed)]]) [0] [] (c_spec_l01Cur_pick n r406.2 3 _ hr407) (fun K hk => hk) rfl ⟨rfl, rfl, trivial⟩ ⟨⟨rfl, rfl, rfl, rfl, trivial⟩, trivial⟩ rfl ?_
            rintro rs τ' hl' ⟨rfl, rfl⟩
            refine And.intro (by have q := ixr hx381; simp at q ⊢; omega) ?_
            refine Exists.intro _ (And.intro (gz (gc (show [S ⟨#[48]⟩, S ⟨#[49]⟩, S ⟨#[97]⟩] = ([⟨#[48]⟩, ⟨#[49]⟩, ⟨#[97]⟩]).map S by simp) (gm (ixg hx381)))) ?_)
            refine callA (c_spec_l01Leaf n x380 x381 _ hr408) ?_
            replace h := Option.some.inj h
            subst h
            exact ⟨[.p (r408.enc)], [.box 213 [.p (.lst (bl r407.2.code)), .p (I r407.2.at_), .p (I r407.2.seed)]], ⟨[], ⟨rfl, trivial⟩, ⟨⟨rfl, rfl, rfl, rfl, trivial⟩, trivial⟩, rfl⟩, rfl, rfl, rfl⟩
        · refine And.intro ?_ ?_
          · skip
            refine callW (args' := [.ptr 0 0, .p (I 2)]) (τ0 := [.box 213 [.p (.lst (bl v165.code)), .p (I v165.at_), .p (I v165.seed)]]) [0] [] (c_spec_l01Cur_pick n v165 2 _ hr406) (fun K hk => hk) rfl ⟨rfl, rfl, trivial⟩ ⟨⟨rfl, rfl, rfl, rfl, trivial⟩, trivial⟩ rfl ?_
            rintro rs τ' hl' ⟨rfl, rfl⟩
            refine And.intro ?_ ?_
            · refine And.intro (show fits _ _ from ⟨⟨rfl, rfl⟩, ⟨⟨rfl, rfl⟩, trivial⟩⟩) ?_
              refine And.intro (by have q := ixr hx380; simp at q ⊢; omega) ?_
              refine Exists.intro _ (And.intro (gz (gc (show [S ⟨#[78, 117, 109]⟩, S ⟨#[73, 100]⟩] = ([⟨#[78, 117, 109]⟩, ⟨#[73, 100]⟩]).map S by simp) (gm (ixg hx380)))) ?_)
              refine And.intro ?_ ?_
              · refine And.intro (show fits _ _ from ⟨⟨rfl, rfl⟩, ⟨⟨rfl, rfl⟩, ⟨⟨rfl, rfl⟩, trivial⟩⟩⟩) ?_
                refine callW (args' := [.ptr 0 0, .p (I 3)]) (τ0 := [.box 213 [.p (.lst (bl r406.2.code)), .p (I r406.2.at_), .p (I r406.2.seed)]]) [0] [] (c_spec_l01Cur_pick n r406.2 3 _ hr407) (fun K hk => hk) rfl ⟨rfl, rfl, trivial⟩ ⟨⟨rfl, rfl, rfl, rfl, trivial⟩, trivial⟩ rfl ?_
                rintro rs τ' hl' ⟨rfl, rfl⟩
                refine And.intro (by have q := ixr hx381; simp at q ⊢; omega) ?_
                refine Exists.intro _ (And.intro (gz (gc (show [S ⟨#[48]⟩, S ⟨#[49]⟩, S ⟨#[97]⟩] = ([⟨#[48]⟩, ⟨#[49]⟩, ⟨#[97]⟩]).map S by simp) (gm (ixg hx381)))) ?_)
                refine callA (c_spec_l01Leaf n x380 x381 _ hr408) ?_
                replace h := Option.some.inj h
                subst h
                exact ⟨[.p (r408.enc)], [.box 213 [.p (.lst (bl r407.2.code)), .p (I r407.2.at_), .p (I r407.2.seed)]], ⟨[], ⟨rfl, trivial⟩, ⟨⟨rfl, rfl, rfl, rfl, trivial⟩, trivial⟩, rfl⟩, rfl, rfl, rfl⟩
              · skip
                refine callW (args' := [.ptr 0 0, .p (I 3)]) (τ0 := [.box 213 [.p (.lst (bl r406.2.code)), .p (I r406.2.at_), .p (I r406.2.seed)]]) [0] [] (c_spec_l01Cur_pick n r406.2 3 _ hr407) (fun K hk => hk) rfl ⟨rfl, rfl, trivial⟩ ⟨⟨rfl, rfl, rfl, rfl, trivial⟩, trivial⟩ rfl ?_
                rintro rs τ' hl' ⟨rfl, rfl⟩
                refine And.intro (show fits _ _ from ⟨⟨rfl, rfl⟩, ⟨⟨rfl, rfl⟩, ⟨⟨rfl, rfl⟩, trivial⟩⟩⟩) ?_
                refine And.intro (by have q := ixr hx381; simp at q ⊢; omega) ?_
                refine Exists.intro _ (And.intro (gz (gc (show [S ⟨#[48]⟩, S ⟨#[49]⟩, S ⟨#[97]⟩] = ([⟨#[48]⟩, ⟨#[49]⟩, ⟨#[97]⟩]).map S by simp) (gm (ixg hx381)))) ?_)
                refine callA (c_spec_l01Leaf n x380 x381 _ hr408) ?_
                replace h := Option.some.inj h
                subst h
                exact ⟨[.p (r408.enc)], [.box 213 [.p (.lst (bl r407.2.code)), .p (I r407.2.at_), .p (I r407.2.seed)]], ⟨[], ⟨rfl, trivial⟩, ⟨⟨rfl, rfl, rfl, rfl, trivial⟩, trivial⟩, rfl⟩, rfl, rfl, rfl⟩
            · refine And.intro ?_ ?_
              · refine And.intro (show fits _ _ from ⟨⟨rfl, rfl⟩, ⟨⟨rfl, rfl⟩, ⟨⟨rfl, rfl⟩, trivial⟩⟩⟩) ?_
                refine And.intro ?_ ?_
                · refine And.intro (show fits _ _ from ⟨⟨rfl, rfl⟩, ⟨⟨rfl, rfl⟩, trivial⟩⟩) ?_
                  refine And.intro (by have q := ixr hx380; simp at q ⊢; omega) ?_
                  refine Exists.intro _ (And.intro (gz (gc (show [S ⟨#[78, 117, 109]⟩, S ⟨#[73, 100]⟩] = ([⟨#[78, 117, 109]⟩, ⟨#[73, 100]⟩]).map S by simp) (gm (ixg hx380)))) ?_)
                  refine callW (args' := [.ptr 0 0, .p (I 3)]) (τ0 := [.box 213 [.p (.lst (bl r406.2.code)), .p (I r406.2.at_), .p (I r406.2.seed)]]) [0] [] (c_spec_l01Cur_pick n r406.2 3 _ hr407) (fun K hk => hk) rfl ⟨rfl, rfl, trivial⟩ ⟨⟨rfl, rfl, rfl, rfl, trivial⟩, trivial⟩ rfl ?_
                  rintro rs τ' hl' ⟨rfl, rfl⟩
                  refine And.intro (by have q := ixr hx381; simp at q ⊢; omega) ?_
                  refine Exists.intro _ (And.intro (gz (gc (show [S ⟨#[48]⟩, S ⟨#[49]⟩, S ⟨#[97]⟩] = ([⟨#[48]⟩, ⟨#[49]⟩, ⟨#[97]⟩]).map S by simp) (gm (ixg hx381)))) ?_)
                  refine callA (c_spec_l01Leaf n x380 x381 _ hr408) ?_
                  replace h := Option.some.inj h
                  subst h
                  exact ⟨[.p (r408.enc)], [.box 213 [.p (.lst (bl r407.2.code)), .p (I r407.2.at_), .p (I r407.2.seed)]], ⟨[], ⟨rfl, trivial⟩, ⟨⟨rfl, rfl, rfl, rfl, trivial⟩, trivial⟩, rfl⟩, rfl, rfl, rfl⟩
                · skip
                  refine callW (args' := [.ptr 0 0, .p (I 3)]) (τ0 := [.box 213 [.p (.lst (bl r406.2.code)), .p (I r406.2.at_), .p (I r406.2.seed)]]) [0] [] (c_spec_l01Cur_pick n r406.2 3 _ hr407) (fun K hk => hk) rfl ⟨rfl, rfl, trivial⟩ ⟨⟨rfl, rfl, rfl, rfl, trivial⟩, trivial⟩ rfl ?_
                  rintro rs τ' hl' ⟨rfl, rfl⟩
                  refine And.intro (by have q := ixr hx381; simp at q ⊢; omega) ?_
                  refine Exists.intro _ (And.intro (gz (gc (show [S ⟨#[48]⟩, S ⟨#[49]⟩, S ⟨#[97]⟩] = ([⟨#[48]⟩, ⟨#[49]⟩, ⟨#[97]⟩]).map S by simp) (gm (ixg hx381)))) ?_)
                  refine And.intro (show fits _ _ from ⟨⟨rfl, rfl⟩, ⟨⟨rfl, rfl⟩, trivial⟩⟩) ?_
                  refine And.intro (by have q := ixr hx380; simp at q ⊢; omega) ?_
                  refine Exists.intro _ (And.intro (gz (gc (show [S ⟨#[78, 117, 109]⟩, S ⟨#[73, 100]⟩] = ([⟨#[78, 117, 109]⟩, ⟨#[73, 100]⟩]).map S by simp) (gm (ixg hx380)))) ?_)
                  refine callA (c_spec_l01Leaf n x380 x381 _ hr408) ?_
                  replace h := Option.some.inj h
                  subst h
                  exact ⟨[.p (r408.enc)], [.box 213 [.p (.lst (bl r407.2.code)), .p (I r407.2.at_), .p (I r407.2.seed)]], ⟨[], ⟨rfl, trivial⟩, ⟨⟨rfl, rfl, rfl, rfl, trivial⟩, trivial⟩, rfl⟩, rfl, rfl, rfl⟩
              · skip
                refine callW (args' := [.ptr 0 0, .p (I 3)]) (τ0 := [.box 213 [.p (.lst (bl r406.2.code)), .p (I r406.2.at_), .p (I r406.2.seed)]]) [0] [] (c_spec_l01Cur_pick n r406.2 3 _ hr407) (fun K hk => hk) rfl ⟨rfl, rfl, trivial⟩ ⟨⟨rfl, rfl, rfl, rfl, trivial⟩, trivial⟩ rfl ?_
                rintro rs τ' hl' ⟨rfl, rfl⟩
                refine And.intro ?_ ?_
                · refine And.intro (show fits _ _ from ⟨⟨rfl, rfl⟩, ⟨⟨rfl, rfl⟩, trivial⟩⟩) ?_
                  refine And.intro (by have q := ixr hx380; simp at q ⊢; omega) ?_
                  refine Exists.intro _ (And.intro (gz (gc (show [S ⟨#[78, 117, 109]⟩, S ⟨#[73, 100]⟩] = ([⟨#[78, 117, 109]⟩, ⟨#[73, 100]⟩]).map S by simp) (gm (ixg hx380)))) ?_)
                  refine And.intro (show fits _ _ from ⟨⟨rfl, rfl⟩, ⟨⟨rfl, rfl⟩, ⟨⟨rfl, rfl⟩, trivial⟩⟩⟩) ?_
                  refine And.intro (by have q := ixr hx381; simp at q ⊢; omega) ?_
                  refine Exists.intro _ (And.intro (gz (gc (show [S ⟨#[48]⟩, S ⟨#[49]⟩, S ⟨#[97]⟩] = ([⟨#[48]⟩, ⟨#[49]⟩, ⟨#[97]⟩]).map S by simp) (gm (ixg hx381)))) ?_)
                  refine callA (c_spec_l01Leaf n x380 x381 _ hr408) ?_
                  replace h := Option.some.inj h
                  subst h
                  exact ⟨[.p (r408.enc)], [.box 213 [.p (.lst (bl r407.2.code)), .p (I r407.2.at_), .p (I r407.2.seed)]], ⟨[], ⟨rfl, trivial⟩, ⟨⟨rfl, rfl, rfl, rfl, trivial⟩, trivial⟩, rfl⟩, rfl, rfl, rfl⟩
                · refine And.intro (show fits _ _ from ⟨⟨rfl, rfl⟩, ⟨⟨rfl, rfl⟩, ⟨⟨rfl, rfl⟩, trivial⟩⟩⟩) ?_
                  refine And.intro (by have q := ixr hx381; simp at q ⊢; omega) ?_
                  refine Exists.intro _ (And.intro (gz (gc (show [S ⟨#[48]⟩, S ⟨#[49]⟩, S ⟨#[97]⟩] = ([⟨#[48]⟩, ⟨#[49]⟩, ⟨#[97]⟩]).map S by simp) (gm (ixg hx381)))) ?_)
                  refine And.intro (show fits _ _ from ⟨⟨rfl, rfl⟩, ⟨⟨rfl, rfl⟩, trivial⟩⟩) ?_
                  refine And.intro (by have q := ixr hx380; simp at q ⊢; omega) ?_
                  refine Exists.intro _ (And.intro (gz (gc (show [S ⟨#[78, 117, 109]⟩, S ⟨#[73, 100]⟩] = ([⟨#[78, 117, 109]⟩, ⟨#[73, 100]⟩]).map S by simp) (gm (ixg hx380)))) ?_)
                  refine callA (c_spec_l01Leaf n x380 x381 _ hr408) ?_
                  replace h := Option.some.inj h
                  subst h
                  exact ⟨[.p (r408.enc)], [.box 213 [.p (.lst (bl r407.2.code)), .p (I r407.2.at_), .p (I r407.2.seed)]], ⟨[], ⟨rfl, trivial⟩, ⟨⟨rfl, rfl, rfl, rfl, trivial⟩, trivial⟩, rfl⟩, rfl, rfl, rfl⟩
          · refine And.intro (show fits _ _ from ⟨⟨rfl, rfl⟩, ⟨⟨rfl, rfl⟩, ⟨⟨rfl, rfl⟩, trivial⟩⟩⟩) ?_
            refine And.intro ?_ ?_
            · refine And.intro (show fits _ _ from ⟨⟨rfl, rfl⟩, ⟨⟨rfl, rfl⟩, trivial⟩⟩) ?_
              refine callW (args' := [.ptr 0 0, .p (I 2)]) (τ0 := [.box 213 [.p (.lst (bl v165.code)), .p (I v165.at_), .p (I v165.seed)]]) [0] [] (c_spec_l01Cur_pick n v165 2 _ hr406) (fun K hk => hk) rfl ⟨rfl, rfl, trivial⟩ ⟨⟨rfl, rfl, rfl, rfl, trivial⟩, trivial⟩ rfl ?_
              rintro rs τ' hl' ⟨rfl, rfl⟩
              refine And.intro (by have q := ixr hx380; simp at q ⊢; omega) ?_
              refine Exists.intro _ (And.intro (gz (gc (show [S ⟨#[78, 117, 109]⟩, S ⟨#[73, 100]⟩] = ([⟨#[78, 117, 109]⟩, ⟨#[73, 100]⟩]).map S by simp) (gm (ixg hx380)))) ?_)
              refine callW (args' := [.ptr 0 0, .p (I 3)]) (τ0 := [.box 213 [.p (.lst (bl r406.2.code)), .p (I r406.2.at_), .p (I r406.2.seed)]]) [0] [] (c_spec_l01Cur_pick n r406.2 3 _ hr407) (fun K hk => hk) rfl ⟨rfl, rfl, trivial⟩ ⟨⟨rfl, rfl, rfl, rfl, trivial⟩, trivial⟩ rfl ?_
              rintro rs τ' hl' ⟨rfl, rfl⟩
              refine And.intro (by have q := ixr hx381; simp at q ⊢; omega) ?_
              refine Exists.intro _ (And.intro (gz (gc (show [S ⟨#[48]⟩, S ⟨#[49]⟩, S ⟨#[97]⟩] = ([⟨#[48]⟩, ⟨#[49]⟩, ⟨#[97]⟩]).map S by simp) (gm (ixg hx381)))) ?_)
              refine callA (c_spec_l01Leaf n x380 x381 _ hr408) ?_
              replace h := Option.some.inj h
              subst h
              exact ⟨[.p (r408.enc)], [.box 213 [.p (.lst (bl r407.2.code)), .p (I r407.2.at_), .p (I r407.2.seed)]], ⟨[], ⟨rfl, trivial⟩, ⟨⟨rfl, rfl, rfl, rfl, trivial⟩, trivial⟩, rfl⟩, rfl, rfl, rfl⟩
            · skip
              refine callW (args' := [.ptr 0 0, .p (I 2)]) (τ0 := [.box 213 [.p (.lst (bl v165.code)), .p (I v165.at_), .p (I v165.seed)]]) [0] [] (c_spec_l01Cur_pick n v165 2 _ hr406) (fun K hk => hk) rfl ⟨rfl, rfl, trivial⟩ ⟨⟨rfl, rfl, rfl, rfl, trivial⟩, trivial⟩ rfl ?_
              rintro rs τ' hl' ⟨rfl, rfl⟩
              refine And.intro ?_ ?_
              · refine And.intro (show fits _ _ from ⟨⟨rfl, rfl⟩, ⟨⟨rfl, rfl⟩, trivial⟩⟩) ?_
                refine And.intro (by have q := ixr hx380; simp at q ⊢; omega) ?_
                refine Exists.intro _ (And.intro (gz (gc (show [S ⟨#[78, 117, 109]⟩, S ⟨#[73, 100]⟩] = ([⟨#[78, 117, 109]⟩, ⟨#[73, 100]⟩]).map S by simp) (gm (ixg hx380)))) ?_)
                refine callW (args' := [.ptr 0 0, .p (I 3)]) (τ0 := [.box 213 [.p (.lst (bl r406.2.code)), .p (I r406.2.at_), .p (I r406.2.seed)]]) [0] [] (c_spec_l01Cur_pick n r406.2 3 _ hr407) (fun K hk => hk) rfl ⟨rfl, rfl, trivial⟩ ⟨⟨rfl, rfl, rfl, rfl, trivial⟩, trivial⟩ rfl ?_
                rintro rs τ' hl' ⟨rfl, rfl⟩
                refine And.intro (by have q := ixr hx381; simp at q ⊢; omega) ?_
                refine Exists.intro _ (And.intro (gz (gc (show [S ⟨#[48]⟩, S ⟨#[49]⟩, S ⟨#[97]⟩] = ([⟨#[48]⟩, ⟨#[49]⟩, ⟨#[97]⟩]).map S by simp) (gm (ixg hx381)))) ?_)
                refine callA (c_spec_l01Leaf n x380 x381 _ hr408) ?_
                replace h := Option.some.inj h
                subst h
                exact ⟨[.p (r408.enc)], [.box 213 [.p (.lst (bl r407.2.code)), .p (I r407.2.at_), .p (I r407.2.seed)]], ⟨[], ⟨rfl, trivial⟩, ⟨⟨rfl, rfl, rfl, rfl, trivial⟩, trivial⟩, rfl⟩, rfl, rfl, rfl⟩
              · skip
                refine callW (args' := [.ptr 0 0, .p (I 3)]) (τ0 := [.box 213 [.p (.lst (bl r406.2.code)), .p (I r406.2.at_), .p (I r406.2.seed)]]) [0] [] (c_spec_l01Cur_pick n r406.2 3 _ hr407) (fun K hk => hk) rfl ⟨rfl, rfl, trivial⟩ ⟨⟨rfl, rfl, rfl, rfl, trivial⟩, trivial⟩ rfl ?_
                rintro rs τ' hl' ⟨rfl, rfl⟩
                refine And.intro (by have q := ixr hx381; simp at q ⊢; omega) ?_
                refine Exists.intro _ (And.intro (gz (gc (show [S ⟨#[48]⟩, S ⟨#[49]⟩, S ⟨#[97]⟩] = ([⟨#[48]⟩, ⟨#[49]⟩, ⟨#[97]⟩]).map S by simp) (gm (ixg hx381)))) ?_)
                refine And.intro (show fits _ _ from ⟨⟨rfl, rfl⟩, ⟨⟨rfl, rfl⟩, trivial⟩⟩) ?_
                refine And.intro (by have q := ixr hx380; simp at q ⊢; omega) ?_
                refine Exists.intro _ (And.intro (gz (gc (show [S ⟨#[78, 117, 109]⟩, S ⟨#[73, 100]⟩] = ([⟨#[78, 117, 109]⟩, ⟨#[73, 100]⟩]).map S by simp) (gm (ixg hx380)))) ?_)
                refine callA (c_spec_l01Leaf n x380 x381 _ hr408) ?_
                replace h := Option.some.inj h
                subst h
                exact ⟨[.p (r408.enc)], [.box 213 [.p (.lst (bl r407.2.code)), .p (I r407.2.at_), .p (I r407.2.seed)]], ⟨[], ⟨rfl, trivial⟩, ⟨⟨rfl, rfl, rfl, rfl, trivial⟩, trivial⟩, rfl⟩, rfl, rfl, rfl⟩
      · replace h := cF h c
        refine .inl ?_
        obtain ⟨r434, hr434, h⟩ := bsm h
        refine callW (args' := [.ptr 0 0, .p (I 3)]) (τ0 := [.box 213 [.p (.lst (bl v165.code)), .p (I v165.at_), .p (I v165.seed)]]) [0] [] (c_spec_l01Cur_pick n v165 3 _ hr434) (fun K hk => hk) rfl ⟨rfl, rfl, trivial⟩ ⟨⟨rfl, rfl, rfl, rfl, trivial⟩, trivial⟩ rfl ?_
        rintro rs τ' hl' ⟨rfl, rfl⟩
        refine .inl ?_
        refine .inl ?_
        refine And.intro (fun c => ?_) (fun c => ?_)
        · replace h := cT h c
          refine .inl ?_
          obtain ⟨r435, hr435, h⟩ := bsm h
          refine callW (args' := [.ptr 0 0, .p (I (wr .i64 (a53 - 1)))]) (τ0 := [.box 213 [.p (.lst (bl r434.2.code)), .p (I r434.2.at_), .p (I r434.2.seed)]]) [0] [] (ih_spec_l11DrawTerm r434.2 (wr .i64 (a53 - 1)) _ hr435) (fun K hk => hk) rfl ⟨rfl, rfl, trivial⟩ ⟨⟨rfl, rfl, rfl, rfl, trivial⟩, trivial⟩ rfl ?_
          rintro rs τ' hl' ⟨rfl, rfl⟩
          refine And.intro (show fits _ _ from ⟨⟨rfl, rfl⟩, trivial⟩) ?_
          obtain ⟨r436, hr436, h⟩ := bsm h
          refine callP (c_spec_l01Node n ⟨#[78, 101, 103]⟩ [r435.1] _ hr436) (fun K hk => Exists.intro _ (And.intro (rowN (show [r435.1.enc] = encM [r435.1] by simp) (show 1 = (encM [r435.1]).length by simp)) hk)) ?_
          replace h := Option.some.inj h
          subst h
          exact ⟨[.p (r436.enc)], [.box 213 [.p (.lst (bl r435.2.code)), .p (I r435.2.at_), .p (I r435.2.seed)]], ⟨[], ⟨rfl, trivial⟩, ⟨⟨rfl, rfl, rfl, rfl, trivial⟩, trivial⟩, rfl⟩, rfl, rfl, rfl⟩
        · replace h := cF h c
          refine .inl ?_
          refine ⟨[1, 4, 5, 6, 8, 9, 10, 5000, 6000, 6000, 6000, 6000, 6000, 6000, 6000, 6000, 6000, 6000, 6000, 6000, 6000, 6000, 6000, 6000, 6000, 6000, 6000, 6000, 6000, 6000, 0, 2, 3, 7, 11, 12, 13, 1014, 7, 5000, 6000, 6000, 6000, 6000, 6000, 6000, 6000, 0, 2, 3, 11, 12, 13, 1014, 11, 5000, 0, 2, 3, 12, 13, 1014, 12, 0, 2, 3, 13, 1014], [0], by decide +kernel, ?_⟩
          obtain ⟨x406, hx406, h⟩ := bsm h
          obtain ⟨r446, hr446, h⟩ := bsm h
          obtain ⟨r447, hr447, h⟩ := bsm h
          obtain ⟨r448, hr448, h⟩ := bsm h
          refine And.intro ?_ ?_
          · refine And.intro (show fits _ _ from ⟨⟨rfl, rfl⟩, ⟨⟨rfl, rfl⟩, trivial⟩⟩) ?_
            refine And.intro (by have q := ixr hx406; simp at q ⊢; omega) ?_
            refine Exists.intro _ (And.intro (gz (gc (show [S ⟨#[65, 100, 100]⟩, S ⟨#[77, 117, 108]⟩] = ([⟨#[65, 100, 100]⟩, ⟨#[77, 117, 108]⟩]).map S by simp) (gm (ixg hx406)))) ?_)
            refine callW (args' := [.ptr 0 0, .p (I (wr .i64 (a53 - 1)))]) (τ0 := [.box 213 [.p (.lst (bl r434.2.code)), .p (I r434.2.at_), .p (I r434.2.seed)]]) [0] [] (ih_spec_l11DrawTerm r434.2 (wr .i64 (a53 - 1)) _ hr446) (fun K hk => hk) rfl ⟨rfl, rfl, trivial⟩ ⟨⟨rfl, rfl, rfl, rfl, trivial⟩, trivial⟩ rfl ?_
            rintro rs τ' hl' ⟨rfl, rfl⟩
            refine callW (args' := [.ptr 0 0, .p (I (wr .i64 (a53 - 1)))]) (τ0 := [.box 213 [.p (.lst (bl r446.2.code)), .p (I r446.2.at_), .p (I r446.2.seed)]]) [0] [] (ih_spec_l11DrawTerm r446.2 (wr .i64 (a53 - 1)) _ hr447) (fun K hk => hk) rfl ⟨rfl, rfl, trivial⟩ ⟨⟨rfl, rfl, rfl, rfl, trivial⟩, trivial⟩ rfl ?_
            rintro rs τ' hl' ⟨rfl, rfl⟩
            refine And.intro (show fits _ _ from ⟨⟨rfl, rfl⟩, ⟨⟨rfl, rfl⟩, trivial⟩⟩) ?_
            refine callP (c_spec_l01Node n x406 [r446.1, r447.1] _ hr448) (fun K hk => Exists.intro _ (And.intro (rowN (show [r446.1.enc, r447.1.enc] = encM [r446.1, r447.1] by simp) (show 2 = (encM [r446.1, r447.1]).length by simp)) hk)) ?_
            replace h := Option.some.inj h
            subst h
            exact ⟨[.p (r448.enc)], [.box 213 [.p (.lst (bl r447.2.code)), .p (I r447.2.at_), .p (I r447.2.seed)]], ⟨[], ⟨rfl, trivial⟩, ⟨⟨rfl, rfl, rfl, rfl, trivial⟩, trivial⟩, rfl⟩, rfl, rfl, rfl⟩
          · skip
            refine callW (args' := [.ptr 0 0, .p (I (wr .i64 (a53 - 1)))]) (τ0 := [.box 213 [.p (.lst (bl r434.2.code)), .p (I r434.2.at_), .p (I r434.2.seed)]]) [0] [] (ih_spec_l11DrawTerm r434.2 (wr .i64 (a53 - 1)) _ hr446) (fun K hk => hk) rfl ⟨rfl, rfl, trivial⟩ ⟨⟨rfl, rfl, rfl, rfl, trivial⟩, trivial⟩ rfl ?_
            rintro rs τ' hl' ⟨rfl, rfl⟩
            refine And.intro ?_ ?_
            · refine And.intro (show fits _ _ from ⟨⟨rfl, rfl⟩, ⟨⟨rfl, rfl⟩, trivial⟩⟩) ?_
              refine And.intro (by have q := ixr hx406; simp at q ⊢; omega) ?_
              refine Exists.intro _ (And.intro (gz (gc (show [S ⟨#[65, 100, 100]⟩, S ⟨#[77, 117, 108]⟩] = ([⟨#[65, 100, 100]⟩, ⟨#[77, 117, 108]⟩]).map S by simp) (gm (ixg hx406)))) ?_)
              refine callW (args' := [.ptr 0 0, .p (I (wr .i64 (a53 - 1)))]) (τ0 := [.box 213 [.p (.lst (bl r446.2.code)), .p (I r446.2.at_), .p (I r446.2.seed)]]) [0] [] (ih_spec_l11DrawTerm r446.2 (wr .i64 (a53 - 1)) _ hr447) (fun K hk => hk) rfl ⟨rfl, rfl, trivial⟩ ⟨⟨rfl, rfl, rfl, rfl, trivial⟩, trivial⟩ rfl ?_
              rintro rs τ' hl' ⟨rfl, rfl⟩
              refine And.intro (show fits _ _ from ⟨⟨rfl, rfl⟩, ⟨⟨rfl, rfl⟩, trivial⟩⟩) ?_
              refine callP (c_spec_l01Node n x406 [r446.1, r447.1] _ hr448) (fun K hk => Exists.intro _ (And.intro (rowN (show [r446.1.enc, r447.1.enc] = encM [r446.1, r447.1] by simp) (show 2 = (encM [r446.1, r447.1]).length by simp)) hk)) ?_
              replace h := Option.some.inj h
              subst h
              exact ⟨[.p (r448.enc)], [.box 213 [.p (.lst (bl r447.2.code)), .p (I r447.2.at_), .p (I r447.2.seed)]], ⟨[], ⟨rfl, trivial⟩, ⟨⟨rfl, rfl, rfl, rfl, trivial⟩, trivial⟩, rfl⟩, rfl, rfl, rfl⟩
            · skip
              refine callW (args' := [.ptr 0 0, .p (I (wr .i64 (a53 - 1)))]) (τ0 := [.box 213 [.p (.lst (bl r446.2.code)), .p (I r446.2.at_), .p (I r446.2.seed)]]) [0] [] (ih_spec_l11DrawTerm r446.2 (wr .i64 (a53 - 1)) _ hr447) (fun K hk => hk) rfl ⟨rfl, rfl, trivial⟩ ⟨⟨rfl, rfl, rfl, rfl, trivial⟩, trivial⟩ rfl ?_
              rintro rs τ' hl' ⟨rfl, rfl⟩
              refine And.intro ?_ ?_
              · refine And.intro (show fits _ _ from ⟨⟨rfl, rfl⟩, ⟨⟨rfl, rfl⟩, trivial⟩⟩) ?_
                refine And.intro (by have q := ixr hx406; simp at q ⊢; omega) ?_
                refine Exists.intro _ (And.intro (gz (gc (show [S ⟨#[65, 100, 100]⟩, S ⟨#[77, 117, 108]⟩] = ([⟨#[65, 100, 100]⟩, ⟨#[77, 117, 108]⟩]).map S by simp) (gm (ixg hx406)))) ?_)
                refine And.intro (show fits _ _ from ⟨⟨rfl, rfl⟩, ⟨⟨rfl, rfl⟩, trivial⟩⟩) ?_
                refine callP (c_spec_l01Node n x406 [r446.1, r447.1] _ hr448) (fun K hk => Exists.intro _ (And.intro (rowN (show [r446.1.enc, r447.1.enc] = encM [r446.1, r447.1] by simp) (show 2 = (encM [r446.1, r447.1]).length by simp)) hk)) ?_
                replace h := Option.some.inj h
                subst h
                exact ⟨[.p (r448.enc)], [.box 213 [.p (.lst (bl r447.2.code)), .p (I r447.2.at_), .p (I r447.2.seed)]], ⟨[], ⟨rfl, trivial⟩, ⟨⟨rfl, rfl, rfl, rfl, trivial⟩, trivial⟩, rfl⟩, rfl, rfl, rfl⟩
              · refine And.intro (show fits _ _ from ⟨⟨rfl, rfl⟩, ⟨⟨rfl, rfl⟩, trivial⟩⟩) ?_
                refine And.intro (show fits _ _ from ⟨⟨rfl, rfl⟩, ⟨⟨rfl, rfl⟩, trivial⟩⟩) ?_
                refine And.intro (by have q := ixr hx406; simp at q ⊢; omega) ?_
                refine Exists.intro _ (And.intro (gz (gc (show [S ⟨#[65, 100, 100]⟩, S ⟨#[77, 117, 108]⟩] = ([⟨#[65, 100, 100]⟩, ⟨#[77, 117, 108]⟩]).map S by simp) (gm (ixg hx406)))) ?_)
                refine callP (c_spec_l01Node n x406 [r446.1, r447.1] _ hr448) (fun K hk => Exists.intro _ (And.intro (rowN (show [r446.1.enc, r447.1.enc] = encM [r446.1, r447.1] by simp) (show 2 = (encM [r446.1, r447.1]).length by simp)) hk)) ?_
                replace h := Option.some.inj h
                subst h
                exact ⟨[.p (r448.enc)], [.box 213 [.p (.lst (bl r447.2.code)), .p (I r447.2.at_), .p (I r447.2.seed)]], ⟨[], ⟨rfl, trivial⟩, ⟨⟨rfl, rfl, rfl, rfl, trivial⟩, trivial⟩, rfl⟩, rfl, rfl, rfl⟩
def m_spec_DrawMatch_j2 (r457 : Tree × Cu) (v168 : Tree) : Option (Tree × Tree) :=
  some (r457.1, v168)
def m_spec_DrawMatch_j1 (n : Nat) (r457 : Tree × Cu) (v166 : Cu) (v167 : Tree) : Option (Tree × Tree) :=
  (m_spec_l01Cur_pick n v166 16).bind fun r466 =>
  bif (r466.1 == 0) then (
    (m_spec_l01DrawAny n r466.2).bind fun r467 =>
    m_spec_DrawMatch_j2 r457 r467.1)
  else (
    m_spec_DrawMatch_j2 r457 v167)
def m_spec_DrawMatch (n : Nat) (a54 : List UInt8) : Option (Tree × Tree) :=
  (m_spec_l01DrawCur n a54).bind fun r456 =>
  (m_spec_l11DrawSpoiltPattern n r456).bind fun r457 =>
  (m_spec_l11DrawTerm n r457.2 3).bind fun r458 =>
  (m_spec_l01Cur_pick n r458.2 2).bind fun r468 =>
  bif (r468.1 == 0) then (
    (m_spec_l11DrawTerm n r468.2 1).bind fun r469 =>
    (m_spec_l11DrawTerm n r469.2 1).bind fun r470 =>
    (m_spec_l11DrawTerm n r470.2 1).bind fun r471 =>
    (m_spec_Fill n r457.1 ([(gBind.mk ⟨#[120]⟩ r469.1), (gBind.mk ⟨#[121]⟩ r470.1), (gBind.mk ⟨#[122]⟩ r471.1)])).bind fun r472 =>
    bif (r472.2 == 0) then (
      m_spec_DrawMatch_j1 n r457 r471.2 r472.1)
    else (
      m_spec_DrawMatch_j1 n r457 r471.2 r458.1))
  else (
    m_spec_DrawMatch_j1 n r457 r468.2 r458.1)
theorem c_spec_DrawMatch (n : Nat) (a54 : List UInt8) (r : Tree × Tree) (h : m_spec_DrawMatch n a54 = some r) : FnP Try.prog 22 [.lst (bl a54)] [r.1.enc, r.2.enc] := by
  unfold m_spec_DrawMatch at h
  refine fn_introJ Try.func22 rfl rfl rfl ?_
  refine .inl ?_
  refine .inl ?_
  obtain ⟨r456, hr456, h⟩ := bsm h
  refine callW (args' := [.p (.lst (bl a54))]) (τ0 := []) [] [] (c_spec_l01DrawCur n a54 _ hr456) (fun K hk => hk) rfl ⟨rfl, trivial⟩ trivial rfl ?_
  rintro rs τ' hl' ⟨rfl, rfl⟩
  refine .inl ?_
  obtain ⟨r457, hr457, h⟩ := bsm h
  refine callW (args' := [.ptr 0 0]) (τ0 := [.box 213 [.p (.lst (bl r456.code)), .p (I r456.at_), .p (I r456.seed)]]) [2] [] (c_spec_l11DrawSpoiltPattern n r456 _ hr457) (fun K hk => hk) rfl ⟨rfl, trivial⟩ ⟨⟨rfl, rfl, rfl, rfl, trivial⟩, trivial⟩ rfl ?_
  rintro rs τ' hl' ⟨rfl, rfl⟩
  refine .inl ?_
  obtain ⟨r458, hr458, h⟩ := bsm h
  refine callW (args' := [.ptr 0 0, .p (I 3)]) (τ0 := [.box 213 [.p (.lst (bl r457.2.code)), .p (I r457.2.at_), .p (I r457.2.seed)]]) [2] [] (c_spec_l11DrawTerm n r457.2 3 _ hr458) (fun K hk => hk) rfl ⟨rfl, rfl, trivial⟩ ⟨⟨rfl, rfl, rfl, rfl, trivial⟩, trivial⟩ rfl ?_
  rintro rs τ' hl' ⟨rfl, rfl⟩
  refine .inr ⟨Cu × Tree, fun x => ([(2, .ptr 0 0), (3, .ptr 1 0), (4, .ptr 2 0), (5, .ptr 3 0), (6, .ptr 4 0)], [.box 31 [.p (S ⟨#[]⟩), .p (S ⟨#[]⟩), .p (B false), .tl []], .box 31 [.p (S ⟨#[]⟩), .p (S ⟨#[]⟩), .p (B false), .tl []], .box 213 [.p (.lst (bl x.1.code)), .p (I x.1.at_), .p (I x.1.seed)], .box 31 [.p (S r457.1.nm), .p (S r457.1.tx), .p (B r457.1.lf), .p (.lst (encM r457.1.ks))], .box 31 [.p (S x.2.nm), .p (S x.2.tx), .p (B x.2.lf), .p (.lst (encM x.2.ks))]]), fun x => m_spec_DrawMatch_j1 n r457 x.1 x.2 = some r, ?_, ?_⟩
  · refine .inl ?_
    obtain ⟨r468, hr468, h⟩ := bsm h
    refine callW (args' := [.ptr 0 0, .p (I 2)]) (τ0 := [.box 213 [.p (.lst (bl r458.2.code)), .p (I r458.2.at_), .p (I r458.2.seed)]]) [2] [] (c_spec_l01Cur_pick n r458.2 2 _ hr468) (fun K hk => hk) rfl ⟨rfl, rfl, trivial⟩ ⟨⟨rfl, rfl, rfl, rfl, trivial⟩, trivial⟩ rfl ?_
    rintro rs τ' hl' ⟨rfl, rfl⟩
    refine And.intro (fun c => ?_) (fun c => ?_)
    · replace h := cT h c
      refine .inl ?_
      obtain ⟨r469, hr469, h⟩ := bsm h
      refine callW (args' := [.ptr 0 0, .p (I 1)]) (τ0 := [.box 213 [.p (.lst (bl r468.2.code)), .p (I r468.2.at_), .p (I r468.2.seed)]]) [2] [] (c_spec_l11DrawTerm n r468.2 1 _ hr469) (fun K hk => hk) rfl ⟨rfl, rfl, trivial⟩ ⟨⟨rfl, rfl, rfl, rfl, trivial⟩, trivial⟩ rfl ?_
      rintro rs τ' hl' ⟨rfl, rfl⟩
      obtain ⟨r470, hr470, h⟩ := bsm h
      refine callW (args' := [.ptr 0 0, .p (I 1)]) (τ0 := [.box 213 [.p (.lst (bl r469.2.code)), .p (I r469.2.at_), .p (I r469.2.seed)]]) [2] [] (c_spec_l11DrawTerm n r469.2 1 _ hr470) (fun K hk => hk) rfl ⟨rfl, rfl, trivial⟩ ⟨⟨rfl, rfl, rfl, rfl, trivial⟩, trivial⟩ rfl ?_
      rintro rs τ' hl' ⟨rfl, rfl⟩
      obtain ⟨r471, hr471, h⟩ := bsm h
      refine callW (args' := [.ptr 0 0, .p (I 1)]) (τ0 := [.box 213 [.p (.lst (bl r470.2.code)), .p (I r470.2.at_), .p (I r470.2.seed)]]) [2] [] (c_spec_l11DrawTerm n r470.2 1 _ hr471) (fun K hk => hk) rfl ⟨rfl, rfl, trivial⟩ ⟨⟨rfl, rfl, rfl, rfl, trivial⟩, trivial⟩ rfl ?_
      rintro rs τ' hl' ⟨rfl, rfl⟩
      refine And.intro (show fits _ _ from ⟨⟨rfl, rfl⟩, ⟨⟨rfl, rfl⟩, ⟨⟨rfl, rfl⟩, trivial⟩⟩⟩) ?_
      refine .inl ?_
      obtain ⟨r472, hr472, h⟩ := bsm h
      refine callP (c_spec_Fill n r457.1 ([(gBind.mk ⟨#[120]⟩ r469.1), (gBind.mk ⟨#[121]⟩ r470.1), (gBind.mk ⟨#[122]⟩ r471.1)]) _ hr472) (fun K hk => Exists.intro _ (And.intro (rowN (show [(gBind.mk ⟨#[120]⟩ r469.1).enc, (gBind.mk ⟨#[121]⟩ r470.1).enc, (gBind.mk ⟨#[122]⟩ r471.1).enc] = ([(gBind.mk ⟨#[120]⟩ r469.1), (gBind.mk ⟨#[121]⟩ r470.1), (gBind.mk ⟨#[122]⟩ r471.1)]).map gBind.enc by simp) (show 3 = (([(gBind.mk ⟨#[120]⟩ r469.1), (gBind.mk ⟨#[121]⟩ r470.1), (gBind.mk ⟨#[122]⟩ r471.1)]).map gBind.enc).length by simp)) hk)) ?_
      refine .inl ?_
      refine And.intro (fun c => ?_) (fun c => ?_)
      · replace h := cT h c
        exact ⟨(r471.2, r472.1), h, [], ⟨rfl, rfl, rfl, rfl, rfl, trivial⟩, ⟨⟨rfl, rfl, rfl, rfl, rfl, trivial⟩, ⟨rfl, rfl, rfl, rfl, rfl, trivial⟩, ⟨rfl, rfl, rfl, rfl, trivial⟩, ⟨rfl, rfl, rfl, rfl, rfl, trivial⟩, ⟨rfl, rfl, rfl, rfl, rfl, trivial⟩, trivial⟩, rfl⟩
      · replace h := cF h c
        exact ⟨(r471.2, r458.1), h, [], ⟨rfl, rfl, rfl, rfl, rfl, trivial⟩, ⟨⟨rfl, rfl, rfl, rfl, rfl, trivial⟩, ⟨rfl, rfl, rfl, rfl, rfl, trivial⟩, ⟨rfl, rfl, rfl, rfl, trivial⟩, ⟨rfl, rfl, rfl, rfl, rfl, trivial⟩, ⟨rfl, rfl, rfl, rfl, rfl, trivial⟩, trivial⟩, rfl⟩
    · replace h := cF h c
      exact ⟨(r468.2, r458.1), h, [], ⟨rfl, rfl, rfl, rfl, rfl, trivial⟩, ⟨⟨rfl, rfl, rfl, rfl, rfl, trivial⟩, ⟨rfl, rfl, rfl, rfl, rfl, trivial⟩, ⟨rfl, rfl, rfl, rfl, trivial⟩, ⟨rfl, rfl, rfl, rfl, rfl, trivial⟩, ⟨rfl, rfl, rfl, rfl, rfl, trivial⟩, trivial⟩, rfl⟩
  · rintro ⟨v166, v167⟩ h
    unfold m_spec_DrawMatch_j1 at h
    refine .inr ⟨Tree, fun x => ([(2, .ptr 0 0), (3, .ptr 1 0), (5, .ptr 2 0), (6, .ptr 3 0)], [.box 31 [.p (S ⟨#[]⟩), .p (S ⟨#[]⟩), .p (B false), .tl []], .box 31 [.p (S ⟨#[]⟩), .p (S ⟨#[]⟩), .p (B false), .tl []], .box 31 [.p (S r457.1.nm), .p (S r457.1.tx), .p (B r457.1.lf), .p (.lst (encM r457.1.ks))], .box 31 [.p (S x.nm), .p (S x.tx), .p (B x.lf), .p (.lst (encM x.ks))]]), fun x => m_spec_DrawMatch_j2 r457 x = some r, ?_, ?_⟩
    · refine .inl ?_
      obtain ⟨r466, hr466, h⟩ := bsm h
      refine callW (args' := [.ptr 0 0, .p (I 16)]) (τ0 := [.box 213 [.p (.lst (bl v166.code)), .p (I v166.at_), .p (I v166.seed)]]) [2] [] (c_spec_l01Cur_pick n v166 16 _ hr466) (fun K hk => hk) rfl ⟨rfl, rfl, trivial⟩ ⟨⟨rfl, rfl, rfl, rfl, trivial⟩, trivial⟩ rfl ?_
      rintro rs τ' hl' ⟨rfl, rfl⟩
      refine And.intro (fun c => ?_) (fun c => ?_)
      · replace h := cT h c
        obtain ⟨r467, hr467, h⟩ := bsm h
        refine callW (args' := [.ptr 0 0]) (τ0 := [.box 213 [.p (.lst (bl r466.2.code)), .p (I r466.2.at_), .p (I r466.2.seed)]]) [2] [] (c_spec_l01DrawAny n r466.2 _ hr467) (fun K hk => hk) rfl ⟨rfl, trivial⟩ ⟨⟨rfl, rfl, rfl, rfl, trivial⟩, trivial⟩ rfl ?_
        rintro rs τ' hl' ⟨rfl, rfl⟩
        exact ⟨r467.1, h, [(999999, 0), (999999, 1), (999999, 3), (999999, 4)], ⟨rfl, rfl, rfl, rfl, trivial⟩, ⟨⟨rfl, rfl, rfl, rfl, rfl, trivial⟩, ⟨rfl, rfl, rfl, rfl, rfl, trivial⟩, ⟨rfl, rfl, rfl, rfl, rfl, trivial⟩, ⟨rfl, rfl, rfl, rfl, rfl, trivial⟩, trivial⟩, rfl⟩
      · replace h := cF h c
        exact ⟨v167, h, [(999999, 0), (999999, 1), (999999, 3), (999999, 4)], ⟨rfl, rfl, rfl, rfl, trivial⟩, ⟨⟨rfl, rfl, rfl, rfl, rfl, trivial⟩, ⟨rfl, rfl, rfl, rfl, rfl, trivial⟩, ⟨rfl, rfl, rfl, rfl, rfl, trivial⟩, ⟨rfl, rfl, rfl, rfl, rfl, trivial⟩, trivial⟩, rfl⟩
    · rintro v168 h
      unfold m_spec_DrawMatch_j2 at h
      refine .inl ?_
      refine ⟨[0, 1, 2, 1003], [0], by decide +kernel, ?_⟩
      replace h := Option.some.inj h
      subst h
      exact ⟨[.p (r457.1.enc), .p (v168.enc)], [], ⟨[], ⟨rfl, rfl, trivial⟩, trivial, rfl⟩, rfl, rfl, rfl⟩
def m_impl_fill_j2 (a55 : Tree) (v173 : List Tree) : Option (Tree × Bool) :=
  some ((Tree.mk a55.nm a55.tx a55.lf v173), true)
def m_impl_fill_l3 (self_impl_fill : Tree → List gBind → Option (Tree × Bool)) (a55 : Tree) (a56 : List gBind) : Nat → Int → List Tree → Option (Tree × Bool)
  | 0, _, _ => none
  | k3 + 1, v174, v175 =>
    bif (decide (v174 < ((encM a55.ks).length : Int))) then (
      (ix a55.ks v174).bind fun x415 =>
      (self_impl_fill x415 a56).bind fun r480 =>
      bif (!r480.2) then (
        some ((Tree.mk ⟨#[]⟩ ⟨#[]⟩ false []), false))
      else (
        gp (v175.length + ([r480.1] : List Tree).length ≤ 68719476736) <|
        (m_impl_fill_l3 self_impl_fill a55 a56 k3) (wr .i64 (v174 + 1)) (v175 ++ [r480.1])))
    else (
      m_impl_fill_j2 a55 v175)
def m_impl_fill : Nat → Tree → List gBind → Option (Tree × Bool)
  | 0, _, _ => none
  | n + 1, a55, a56 =>
    (m_impl_isVar n a55).bind fun r473 =>
    bif r473 then (
      (m_impl_bound n a56 a55.tx).bind fun r474 =>
      some (r474.1, r474.2))
    else (
      m_impl_fill_l3 (m_impl_fill n) a55 a56 n 0 [])
theorem c_impl_fill : ∀ (n : Nat) (a55 : Tree) (a56 : List gBind) (r : Tree × Bool) (h : m_impl_fill n a55 a56 = some r), FnP Try.prog 81 [a55.enc, .lst (a56.map gBind.enc)] [r.1.enc, B r.2]
  | 0, _, _, r, h => ns h
  | n + 1, a55, a56, r, h => by
    have ih_impl_fill := c_impl_fill n
    unfold m_impl_fill at h
    refine fn_introJ Try.func81 rfl rfl rfl ?_
    refine .inl ?_
    refine .inl ?_
    refine .inl ?_
    obtain ⟨r473, hr473, h⟩ := bsm h
    refine callA (c_impl_isVar n a55 _ hr473) ?_
    refine And.intro (fun c => ?_) (fun c => ?_)
    · replace h := cT h c
      refine .inl ?_
      obtain ⟨r474, hr474, h⟩ := bsm h
      refine callA (c_impl_bound n a56 a55.tx _ hr474) ?_
      replace h := Option.some.inj h
      subst h
      exact ⟨[.p (r474.1.enc), .p (B r474.2)], [], ⟨[], ⟨rfl, rfl, trivial⟩, trivial, rfl⟩, rfl, rfl, rfl⟩
    · replace h := cF h c
      refine .inl ?_
      refine .inr ⟨List Tree, fun x => ([(4, .ptr 0 0), (6, .ptr 1 0)], [.box 31 [.p (S ⟨#[]⟩), .p (S ⟨#[]⟩), .p (B false), .tl []], .box 31 [.p (S a55.nm), .p (S a55.tx), .p (B a55.lf), .row 2 4 0 x.length], .row 31 4 (encM x)]), fun x => m_impl_fill_j2 a55 x = some r, ?_, ?_⟩
      · refine .inl ?_
        refine ⟨Int × List Tree, fun x => ([(1, .p (.lst (a56.map gBind.enc))), (4, .ptr 0 0), (6, .ptr 1 0), (27, .p (.lst (encM a55.ks))), (28, .p (I ((encM a55.ks).length : Int))), (29, .p (I x.1))], [.box 31 [.p (S ⟨#[]⟩), .p (S ⟨#[]⟩), .p (B false), .tl []], .box 31 [.p (S a55.nm), .p (S a55.tx), .p (B a55.lf), .row 2 4 0 x.2.length], .row 31 4 (encM x.2)]), fun x k => m_impl_fill_l3 (m_impl_fill n) a55 a56 k x.1 x.2 = some r, ⟨(0, []), n, h, [(999999, 1), (999999, 2), (31, 4)], ⟨rfl, rfl, rfl, rfl, rfl, rfl, trivial⟩, ⟨⟨rfl, rfl, rfl, rfl, rfl, trivial⟩, ⟨rfl, rfl, rfl, rfl, ⟨rfl, rfl⟩, trivial⟩, rfl, trivial⟩, rfl⟩, ?_⟩
        rintro ⟨v174, v175⟩ (_ | k3) h
        · exact ns h
        unfold m_impl_fill_l3 at h
        refine .inl ?_
        refine .inl ?_
        refine And.intro (fun c => ?_) (fun c => ?_)
        · replace h := cT h c
          refine .inl ?_
          refine .inl ?_
          obtain ⟨x415, hx415, h⟩ := bsm h
          refine And.intro (ix0 hx415) (Exists.intro _ (And.intro (encM_get (ixg hx415)) (And.intro rfl ?_)))
          refine .inl ?_
          obtain ⟨r480, hr480, h⟩ := bsm h
          refine callA (ih_impl_fill x415 a56 _ hr480) ?_
          refine .inl ?_
          refine .inl ?_
          refine And.intro (fun c => ?_) (fun c => ?_)
          · replace h := cT h c
            refine .inl ?_
            refine .inl ?_
            replace h := Option.some.inj h
            subst h
            exact ⟨[.p ((Tree.mk ⟨#[]⟩ ⟨#[]⟩ false []).enc), .p (B false)], [], ⟨[], ⟨rfl, rfl, trivial⟩, trivial, rfl⟩, rfl, rfl, rfl⟩
          · replace h := cF h c
            refine And.intro (show fits _ _ from ⟨⟨rfl, rfl⟩, trivial⟩) ?_
            obtain ⟨g6, h⟩ := gpT h
            refine Exists.intro ([r480.1.enc]) (And.intro (rowN rfl rfl) ?_)
            refine Exists.intro (encM v175) (And.intro (rowX (rowN rfl (show v175.length = (encM v175).length by simp)) (show fits _ _ from ⟨⟨rfl, rfl⟩, trivial⟩) (appfitJ (by first | simpa using g6 | (simp at g6 ⊢; omega)) rfl)) ?_)
            exact ⟨((wr .i64 (v174 + 1)), (v175 ++ [r480.1])), k3, h, Nat.lt_succ_self _, [], ⟨rfl, rfl, rfl, rfl, rfl, rfl, trivial⟩, ⟨⟨rfl, rfl, rfl, rfl, rfl, trivial⟩, ⟨rfl, rfl, rfl, rfl, (congrArg (AV.row 2 4 0) (show (v175 ++ [r480.1]).length = (v175.length + ([r480.1.enc] : List PV).length) by simp)), trivial⟩, (congrArg (Bk.row 31 4) (show encM (v175 ++ [r480.1]) = (encM v175) ++ [r480.1.enc] by simp)), trivial⟩, rfl⟩
        · replace h := cF h c
          exact ⟨v175, h, [], ⟨rfl, rfl, trivial⟩, ⟨⟨rfl, rfl, rfl, rfl, rfl, trivial⟩, ⟨rfl, rfl, rfl, rfl, rfl, trivial⟩, rfl, trivial⟩, rfl⟩
      · rintro v173 h
        unfold m_impl_fill_j2 at h
        refine .inl ?_
        refine .inl (Exists.intro _ (And.intro (rowN rfl (show v173.length = (encM v173).length by simp)) ?_))
        replace h := Option.some.inj h
        subst h
        exact ⟨[.p ((Tree.mk a55.nm a55.tx a55.lf v173).enc), .p (B true)], [], ⟨[], ⟨rfl, rfl, trivial⟩, trivial, rfl⟩, rfl, rfl, rfl⟩
def m_impl_Fill_j8 (n : Nat) (a57 : Tree) (a58 : List gBind) : Option (Tree × Int) :=
  (m_impl_fill n a57 a58).bind fun r506 =>
  bif (!r506.2) then (
    some ((Tree.mk ⟨#[]⟩ ⟨#[]⟩ false []), 8))
  else (
    (m_impl_TreeOK n r506.1).bind fun r507 =>
    bif (!r507) then (
      some ((Tree.mk ⟨#[]⟩ ⟨#[]⟩ false []), 3))
    else (
      (m_impl_copyTree n r506.1).bind fun r508 =>
      some (r508, 0)))
def m_impl_Fill_j15 (v190 : Int) (v191 : List (ByteArray × Int)) (rec13 : Int → (List (ByteArray × Int)) → Option (Tree × Int)) (x421 : gBind) (v197 : Bool) : Option (Tree × Int) :=
  bif v197 then (
    some ((Tree.mk ⟨#[]⟩ ⟨#[]⟩ false []), 1))
  else (
    rec13 (wr .i64 (v190 + 1)) (tput v191 x421.name_ 1))
def m_impl_Fill_l13 (n : Nat) (a57 : Tree) (a58 : List gBind) : Nat → Int → (List (ByteArray × Int)) → Option (Tree × Int)
  | 0, _, _ => none
  | k13 + 1, v190, v191 =>
    bif (decide (v190 < ((a58.map gBind.enc).length : Int))) then (
      (ix a58 v190).bind fun x421 =>
      (m_impl_nameOK n x421.name_).bind fun r531 =>
      bif (!r531) then (
        m_impl_Fill_j15 v190 v191 (m_impl_Fill_l13 n a57 a58 k13) x421 true)
      else (
        (m_impl_TreeOK n x421.tree_).bind fun r532 =>
        bif (!r532) then (
          m_impl_Fill_j15 v190 v191 (m_impl_Fill_l13 n a57 a58 k13) x421 true)
        else (
          optc (tget v191 x421.name_) (fun y24 =>
            m_impl_Fill_j15 v190 v191 (m_impl_Fill_l13 n a57 a58 k13) x421 (decide (y24 > 0)))
            (m_impl_Fill_j15 v190 v191 (m_impl_Fill_l13 n a57 a58 k13) x421 (decide ((0 : Int) > 0))))))
    else (
      m_impl_Fill_j8 n a57 a58)
def m_impl_Fill (n : Nat) (a57 : Tree) (a58 : List gBind) : Option (Tree × Int) :=
  (m_impl_patternTree n a57).bind fun r481 =>
  bif (!r481) then (
    some ((Tree.mk ⟨#[]⟩ ⟨#[]⟩ false []), 1))
  else (
    m_impl_Fill_l13 n a57 a58 n 0 [])
theorem c_impl_Fill (n : Nat) (a57 : Tree) (a58 : List gBind) (r : Tree × Int) (h : m_impl_Fill n a57 a58 = some r) : FnP Try.prog 23 [a57.enc, .lst (a58.map gBind.enc)] [r.1.enc, I r.2] := by
  unfold m_impl_Fill at h
  refine fn_introJ Try.func23 rfl rfl rfl ?_
  refine .inl ?_
  refine .inl ?_
  refine .inl ?_
  obtain ⟨r481, hr481, h⟩ := bsm h
  refine callA (c_impl_patternTree n a57 _ hr481) ?_
  refine And.intro (fun c => ?_) (fun c => ?_)
  · replace h := cT h c
    refine .inl ?_
    refine .inl ?_
    replace h := Option.some.inj h
    subst h
    exact ⟨[.p ((Tree.mk ⟨#[]⟩ ⟨#[]⟩ false []).enc), .p (I 1)], [], ⟨[], ⟨rfl, rfl, trivial⟩, trivial, rfl⟩, rfl, rfl, rfl⟩
  · replace h := cF h c
    refine .inl ?_
    refine .inr ⟨Unit, fun x => ([(1, .p (.lst (a58.map gBind.enc))), (2, .ptr 0 0), (4, .ptr 1 0)], [.box 31 [.p (S a57.nm), .p (S a57.tx), .p (B a57.lf), .p (.lst (encM a57.ks))], .box 31 [.p (S ⟨#[]⟩), .p (S ⟨#[]⟩), .p (B false), .tl []]]), fun x => m_impl_Fill_j8 n a57 a58 = some r, ?_, ?_⟩
    · refine .inl ?_
      refine ⟨Int × (List (ByteArray × Int)), fun x => ([(1, .p (.lst (a58.map gBind.enc))), (2, .ptr 0 0), (4, .ptr 1 0), (6, .mp 2), (16, .p (.lst (a58.map gBind.enc))), (17, .p (I ((a58.map gBind.enc).length : Int))), (18, .p (I x.1))], [.box 31 [.p (S a57.nm), .p (S a57.tx), .p (B a57.lf), .p (.lst (encM a57.ks))], .box 31 [.p (S ⟨#[]⟩), .p (S ⟨#[]⟩), .p (B false), .tl []], .map 119 (x.2.map (mS I))]), fun x k => m_impl_Fill_l13 n a57 a58 k x.1 x.2 = some r, ⟨(0, []), n, h, [], ⟨rfl, rfl, rfl, rfl, rfl, rfl, rfl, trivial⟩, ⟨⟨rfl, rfl, rfl, rfl, rfl, trivial⟩, ⟨rfl, rfl, rfl, rfl, rfl, trivial⟩, rfl, trivial⟩, rfl⟩, ?_⟩
      rintro ⟨v190, v191⟩ (_ | k13) h
      · exact ns h
      unfold m_impl_Fill_l13 at h
      refine .inl ?_
      refine .inl ?_
      refine And.intro (fun c => ?_) (fun c => ?_)
      · replace h := cT h c
        refine .inl ?_
        refine .inl ?_
        obtain ⟨x421, hx421, h⟩ := bsm h
        refine And.intro (ix0 hx421) (Exists.intro _ (And.intro (gm (ixg hx421)) (And.intro rfl ?_)))
        refine .inl ?_
        refine .inr ⟨Bool, fun x => ([(1, .p (.lst (a58.map gBind.enc))), (2, .ptr 0 0), (4, .ptr 1 0), (6, .mp 2), (8, .ptr 3 0), (16, .p (.lst (a58.map gBind.enc))), (17, .p (I ((a58.map gBind.enc).length : Int))), (18, .p (I v190)), (38, .p (B x))], [.box 31 [.p (S a57.nm), .p (S a57.tx), .p (B a57.lf), .p (.lst (encM a57.ks))], .box 31 [.p (S ⟨#[]⟩), .p (S ⟨#[]⟩), .p (B false), .tl []], .map 119 (v191.map (mS I)), .box 100 [.p (S x421.name_), .p (S x421.tree_.nm), .p (S x421.tree_.tx), .p (B x421.tree_.lf), .p (.lst (encM x421.tree_.ks))]]), fun x => m_impl_Fill_j15 v190 v191 (m_impl_Fill_l13 n a57 a58 k13) x421 x = some r, ?_, ?_⟩
        · obtain ⟨r531, hr531, h⟩ := bsm h
          refine callA (c_impl_nameOK n x421.name_ _ hr531) ?_
          refine And.intro (fun c => ?_) (fun c => ?_)
          · replace h := cF h c
            refine And.intro (fun _ => ?_) (fun c => absurd c (by decide))
            refine And.intro (fun _ => ?_) (fun c => absurd c (by decide))
            obtain ⟨r532, hr532, h⟩ := bsm h
            refine callA (c_impl_TreeOK n x421.tree_ _ hr532) ?_
            refine And.intro (fun _ => ?_) (fun c => absurd c (by decide))
            refine And.intro (fun c => absurd c (by decide)) (fun _ => ?_)
            refine And.intro (fun c => ?_) (fun c => ?_)
            · replace h := cF h c
              refine And.intro (fun _ => ?_) (fun c => absurd c (by decide))
              refine And.intro (fun _ => ?_) (fun c => absurd c (by decide))
              refine And.intro (fun _ => ?_) (fun c => absurd c (by decide))
              refine And.intro ⟨(keysS _), trivial⟩ (And.intro (fun y hy => ?_) (fun hy => ?_))
              · obtain ⟨y24, hy24, rfl⟩ := mgS hy
                replace h := ocs h hy24
                refine And.intro (fun _ => ?_) (fun c => absurd c (by decide))
                refine And.intro (fun c => absurd c (by decide)) (fun _ => ?_)
                exact ⟨(decide (y24 > 0)), h, [], ⟨rfl, rfl, rfl, rfl, rfl, rfl, rfl, rfl, rfl, trivial⟩, ⟨⟨rfl, rfl, rfl, rfl, rfl, trivial⟩, ⟨rfl, rfl, rfl, rfl, rfl, trivial⟩, rfl, ⟨rfl, rfl, rfl, rfl, rfl, rfl, trivial⟩, trivial⟩, rfl⟩
              · replace h := ocn h (mgSn hy)
                refine And.intro (fun _ => ?_) (fun c => absurd c (by decide))
                refine And.intro (fun c => absurd c (by decide)) (fun _ => ?_)
                exact ⟨(decide ((0 : Int) > 0)), h, [], ⟨rfl, rfl, rfl, rfl, rfl, rfl, rfl, rfl, rfl, trivial⟩, ⟨⟨rfl, rfl, rfl, rfl, rfl, trivial⟩, ⟨rfl, rfl, rfl, rfl, rfl, trivial⟩, rfl, ⟨rfl, rfl, rfl, rfl, rfl, rfl, trivial⟩, trivial⟩, rfl⟩
            · replace h := cT h c
              refine And.intro (fun c => absurd c (by decide)) (fun _ => ?_)
              refine And.intro (fun c => absurd c (by decide)) (fun _ => ?_)
              refine And.intro (fun c => absurd c (by decide)) (fun _ => ?_)
              refine And.intro (fun c => absurd c (by decide)) (fun _ => ?_)
              refine And.intro (fun _ => ?_) (fun c => absurd c (by decide))
              exact ⟨true, h, [], ⟨rfl, rfl, rfl, rfl, rfl, rfl, rfl, rfl, rfl, trivial⟩, ⟨⟨rfl, rfl, rfl, rfl, rfl, trivial⟩, ⟨rfl, rfl, rfl, rfl, rfl, trivial⟩, rfl, ⟨rfl, rfl, rfl, rfl, rfl, rfl, trivial⟩, trivial⟩, rfl⟩
          · replace h := cT h c
            refine And.intro (fun c => absurd c (by decide)) (fun _ => ?_)
            refine And.intro (fun c => absurd c (by decide)) (fun _ => ?_)
            refine And.intro (fun c => absurd c (by decide)) (fun _ => ?_)
            refine And.intro (fun _ => ?_) (fun c => absurd c (by decide))
            refine And.intro (fun c => absurd c (by decide)) (fun _ => ?_)
            refine And.intro (fun c => absurd c (by decide)) (fun _ => ?_)
            refine And.intro (fun c => absurd c (by decide)) (fun _ => ?_)
            refine And.intro (fun c => absurd c (by decide)) (fun _ => ?_)
            refine And.intro (fun c => absurd c (by decide)) (fun _ => ?_)
            refine And.intro (fun _ => ?_) (fun c => absurd c (by decide))
            exact ⟨true, h, [], ⟨rfl, rfl, rfl, rfl, rfl, rfl, rfl, rfl, rfl, trivial⟩, ⟨⟨rfl, rfl, rfl, rfl, rfl, trivial⟩, ⟨rfl, rfl, rfl, rfl, rfl, trivial⟩, rfl, ⟨rfl, rfl, rfl, rfl, rfl, rfl, trivial⟩, trivial⟩, rfl⟩
        · rintro v197 h
          unfold m_impl_Fill_j15 at h
          refine And.intro (fun c => ?_) (fun c => ?_)
          · replace h := cT h c
            refine .inl ?_
            refine .inl ?_
            replace h := Option.some.inj h
            subst h
            exact ⟨[.p ((Tree.mk ⟨#[]⟩ ⟨#[]⟩ false []).enc), .p (I 1)], [], ⟨[], ⟨rfl, rfl, trivial⟩, trivial, rfl⟩, rfl, rfl, rfl⟩
          · replace h := cF h c
            refine And.intro ⟨(keysS _), trivial⟩ ?_
            exact ⟨((wr .i64 (v190 + 1)), (tput v191 x421.name_ 1)), k13, h, Nat.lt_succ_self _, [], ⟨rfl, rfl, rfl, rfl, rfl, rfl, rfl, trivial⟩, ⟨⟨rfl, rfl, rfl, rfl, rfl, trivial⟩, ⟨rfl, rfl, rfl, rfl, rfl, trivial⟩, (congrArg (Bk.map 119) (show (tput v191 x421.name_ 1).map (mS I) = mput (v191.map (mS I)) (.string x421.name_) (I 1) by simp)), trivial⟩, rfl⟩
      · replace h := cF h c
        exact ⟨(), h, [], ⟨rfl, rfl, rfl, trivial⟩, ⟨⟨rfl, rfl, rfl, rfl, rfl, trivial⟩, ⟨rfl, rfl, rfl, rfl, rfl, trivial⟩, trivial⟩, rfl⟩
    · rintro _ h
      unfold m_impl_Fill_j8 at h
      refine .inl ?_
      obtain ⟨r506, hr506, h⟩ := bsm h
      refine callA (c_impl_fill n a57 a58 _ hr506) ?_
      refine .inl ?_
      refine .inl ?_
      refine And.intro (fun c => ?_) (fun c => ?_)
      · replace h := cT h c
        refine .inl ?_
        refine .inl ?_
        replace h := Option.some.inj h
        subst h
        exact ⟨[.p ((Tree.mk ⟨#[]⟩ ⟨#[]⟩ false []).enc), .p (I 8)], [], ⟨[], ⟨rfl, rfl, trivial⟩, trivial, rfl⟩, rfl, rfl, rfl⟩
      · replace h := cF h c
        refine .inl ?_
        refine .inl ?_
        obtain ⟨r507, hr507, h⟩ := bsm h
        refine callA (c_impl_TreeOK n r506.1 _ hr507) ?_
        refine And.intro (fun c => ?_) (fun c => ?_)
        · replace h := cT h c
          refine .inl ?_
          refine .inl ?_
          replace h := Option.some.inj h
          subst h
          exact ⟨[.p ((Tree.mk ⟨#[]⟩ ⟨#[]⟩ false []).enc), .p (I 3)], [], ⟨[], ⟨rfl, rfl, trivial⟩, trivial, rfl⟩, rfl, rfl, rfl⟩
        · replace h := cF h c
          refine .inl ?_
          obtain ⟨r508, hr508, h⟩ := bsm h
          refine callA (c_impl_copyTree n r506.1 _ hr508) ?_
          replace h := Option.some.inj h
          subst h
          exact ⟨[.p (r508.enc), .p (I 0)], [], ⟨[], ⟨rfl, rfl, trivial⟩, trivial, rfl⟩, rfl, rfl, rfl⟩
def m_spec_l11Places_j6 (v206 : List (List Int)) : Option (List (List Int)) :=
  some v206
def m_spec_l11Places_j10 (v208 : Int) (rec9 : Int → List (List Int) → Option (List (List Int))) (v213 : List (List Int)) : Option (List (List Int)) :=
  rec9 (wr .i64 (v208 + 1)) v213
def m_spec_l11Places_l9 (self_spec_l11Places : Tree → Tree → List Int → Option (List (List Int))) (a59 : Tree) (a60 : Tree) (a61 : List Int) : Nat → Int → List (List Int) → Option (List (List Int))
  | 0, _, _ => none
  | k9 + 1, v208, v209 =>
    bif (decide (v208 < ((encM a60.ks).length : Int))) then (
      (ix a60.ks v208).bind fun x445 =>
      gp (([] : List Int).length + a61.length ≤ 68719476736) <|
      gp (a61.length + ([v208] : List Int).length ≤ 68719476736) <|
      (self_spec_l11Places a59 x445 (a61 ++ [v208])).bind fun r603 =>
      gp (v209.length + r603.length ≤ 68719476736) <|
      m_spec_l11Places_j10 v208 (m_spec_l11Places_l9 self_spec_l11Places a59 a60 a61 k9) (v209 ++ r603))
    else (
      m_spec_l11Places_j6 v209)
def m_spec_l11Places_j1 (self_spec_l11Places : Tree → Tree → List Int → Option (List (List Int))) (n : Nat) (a59 : Tree) (a60 : Tree) (a61 : List Int) (v198 : List (List Int)) : Option (List (List Int)) :=
  m_spec_l11Places_l9 self_spec_l11Places a59 a60 a61 n 0 v198
def m_spec_l11Places : Nat → Tree → Tree → List Int → Option (List (List Int))
  | 0, _, _, _ => none
  | n + 1, a59, a60, a61 =>
    (m_spec_l11Match n a59 a60 []).bind fun r533 =>
    bif r533.2 then (
      gp (([] : List (List Int)).length + ([a61] : List (List Int)).length ≤ 68719476736) <|
      m_spec_l11Places_j1 (m_spec_l11Places n) n a59 a60 a61 [a61])
    else (
      m_spec_l11Places_j1 (m_spec_l11Places n) n a59 a60 a61 [])
theorem c_spec_l11Places : ∀ (n : Nat) (a59 : Tree) (a60 : Tree) (a61 : List Int) (r : List (List Int)) (h : m_spec_l11Places n a59 a60 a61 = some r), FnP Try.prog 82 [a59.enc, a60.enc, .lst (a61.map I)] [.lst (r.map (eL I))]
  | 0, _, _, _, r, h => ns h
  | n + 1, a59, a60, a61, r, h => by
    have ih_spec_l11Places := c_spec_l11Places n
    unfold m_spec_l11Places at h
    refine fn_introJ Try.func82 rfl rfl rfl ?_
    refine .inl ?_
    refine .inl ?_
    refine And.intro (show fits _ _ from trivial) ?_
    refine .inl ?_
    refine And.intro (show fits _ _ from trivial) ?_
    obtain ⟨r533, hr533, h⟩ := bsm h
    refine callP (c_spec_l11Match n a59 a60 [] _ hr533) (fun K hk => Exists.intro _ (And.intro (rowN (show [] = [].map gBind.enc by simp) (show 0 = ([].map gBind.enc).length by simp)) hk)) ?_
    refine .inr ⟨List (List Int), fun x => ([(2, .p (.lst (a61.map I))), (3, .ptr 0 0), (4, .ptr 1 0), (7, .row 2 1 0 x.length)], [.box 31 [.p (S a59.nm), .p (S a59.tx), .p (B a59.lf), .p (.lst (encM a59.ks))], .box 31 [.p (S a60.nm), .p (S a60.tx), .p (B a60.lf), .p (.lst (encM a60.ks))], .row 49 1 (x.map (eL I))]), fun x => m_spec_l11Places_j1 (m_spec_l11Places n) n a59 a60 a61 x = some r, ?_, ?_⟩
    · refine .inl ?_
      refine And.intro (fun c => ?_) (fun c => ?_)
      · replace h := cT h c
        refine And.intro (show fits _ _ from ⟨⟨rfl, rfl⟩, trivial⟩) ?_
        obtain ⟨g218, h⟩ := gpT h
        refine Exists.intro ([.lst (a61.map I)]) (And.intro (rowN rfl rfl) ?_)
        refine Exists.intro ([].map (eL I)) (And.intro (rowX (rowN (show [] = [].map (eL I) by simp) (show 0 = ([].map (eL I)).length by simp)) (show fits _ _ from ⟨⟨rfl, rfl⟩, trivial⟩) (appfitJ (by first | simpa using g218 | (simp at g218 ⊢; omega)) rfl)) ?_)
        exact ⟨[a61], h, [], ⟨rfl, rfl, rfl, (congrArg (AV.row 2 1 0) (show [a61].length = (0 + ([.lst (a61.map I)] : List PV).length) by simp)), trivial⟩, ⟨⟨rfl, rfl, rfl, rfl, rfl, trivial⟩, ⟨rfl, rfl, rfl, rfl, rfl, trivial⟩, (congrArg (Bk.row 49 1) (show [a61].map (eL I) = ([].map (eL I)) ++ [.lst (a61.map I)] by simp)), trivial⟩, rfl⟩
      · replace h := cF h c
        exact ⟨[], h, [], ⟨rfl, rfl, rfl, (congrArg (AV.row 2 1 0) (show [].length = 0 by simp)), trivial⟩, ⟨⟨rfl, rfl, rfl, rfl, rfl, trivial⟩, ⟨rfl, rfl, rfl, rfl, rfl, trivial⟩, (congrArg (Bk.row 49 1) (show [].map (eL I) = [] by simp)), trivial⟩, rfl⟩
    · rintro v198 h
      unfold m_spec_l11Places_j1 at h
      refine .inr ⟨List (List Int), fun x => ([(7, .row 0 1 0 x.length)], [.row 49 1 (x.map (eL I))]), fun x => m_spec_l11Places_j6 x = some r, ?_, ?_⟩
      · refine .inl ?_
        refine ⟨Int × List (List Int), fun x => ([(2, .p (.lst (a61.map I))), (3, .ptr 0 0), (4, .ptr 1 0), (7, .row 2 1 0 x.2.length), (10, .p (I x.1))], [.box 31 [.p (S a59.nm), .p (S a59.tx), .p (B a59.lf), .p (.lst (encM a59.ks))], .box 31 [.p (S a60.nm), .p (S a60.tx), .p (B a60.lf), .p (.lst (encM a60.ks))], .row 49 1 (x.2.map (eL I))]), fun x k => m_spec_l11Places_l9 (m_spec_l11Places n) a59 a60 a61 k x.1 x.2 = some r, ⟨(0, v198), n, h, [], ⟨rfl, rfl, rfl, rfl, rfl, trivial⟩, ⟨⟨rfl, rfl, rfl, rfl, rfl, trivial⟩, ⟨rfl, rfl, rfl, rfl, rfl, trivial⟩, rfl, trivial⟩, rfl⟩, ?_⟩
        rintro ⟨v208, v209⟩ (_ | k9) h
        · exact ns h
        unfold m_spec_l11Places_l9 at h
        refine .inl ?_
        refine .inl ?_
        refine And.intro (fun c => ?_) (fun c => ?_)
        · replace h := cT h c
          refine .inr ⟨List (List Int), fun x => ([(2, .p (.lst (a61.map I))), (3, .ptr 0 0), (4, .ptr 1 0), (7, .row 2 1 0 x.length), (10, .p (I v208))], [.box 31 [.p (S a59.nm), .p (S a59.tx), .p (B a59.lf), .p (.lst (encM a59.ks))], .box 31 [.p (S a60.nm), .p (S a60.tx), .p (B a60.lf), .p (.lst (encM a60.ks))], .row 49 1 (x.map (eL I))]), fun x => m_spec_l11Places_j10 v208 (m_spec_l11Places_l9 (m_spec_l11Places n) a59 a60 a61 k9) x = some r, ?_, ?_⟩
          · refine ⟨[0, 1, 2, 3, 4, 5, 6, 8, 10, 5000, 7, 5000, 9, 11, 12, 13, 14, 15, 11, 9, 12, 13, 14, 15, 6000, 6000, 6000, 6000, 6000, 6000, 6000, 11, 7, 9, 12, 13, 14, 15], [2, 3, 4], by decide +kernel, ?_⟩
            obtain ⟨x445, hx445, h⟩ := bsm h
            obtain ⟨g211, h⟩ := gpT h
            obtain ⟨g210, h⟩ := gpT h
            obtain ⟨r603, hr603, h⟩ := bsm h
            obtain ⟨g209, h⟩ := gpT h
            refine And.intro (ix0 hx445) (Exists.intro _ (And.intro (encM_get (ixg hx445)) (And.intro rfl ?_)))
            refine And.intro ?_ ?_
            · refine And.intro (show fits _ _ from trivial) ?_
              refine And.intro ?_ ?_
              · skip
                refine Exists.intro ([].map I) (And.intro (rowX (rowN (show [] = [].map I by simp) (show 0 = ([].map I).length by simp)) (fits_map (e := I) (fun _ => ⟨rfl, rfl⟩) _) (appfitJ (by first | simpa using g211 | (simp at g211 ⊢; omega)) rfl)) ?_)
                refine And.intro (show fits _ _ from ⟨⟨rfl, rfl⟩, trivial⟩) ?_
                refine Exists.intro ([I v208]) (And.intro (rowN rfl rfl) ?_)
                refine Exists.intro (a61.map I) (And.intro (rowX (rowN (show ([].map I) ++ (a61.map I) = a61.map I by simp) (show (0 + (a61.map I : List PV).length) = (a61.map I).length by simp)) (show fits _ _ from ⟨⟨rfl, rfl⟩, trivial⟩) (appfitJ (by first | simpa using g210 | (simp at g210 ⊢; omega)) rfl)) ?_)
                refine callP (ih_spec_l11Places a59 x445 (a61 ++ [v208]) _ hr603) (fun K hk => Exists.intro _ (And.intro (rowN (show (a61.map I) ++ [I v208] = (a61 ++ [v208]).map I by simp) (show ((0 + (a61.map I : List PV).length) + ([I v208] : List PV).length) = ((a61 ++ [v208]).map I).length by simp)) hk)) ?_
                refine Exists.intro (v209.map (eL I)) (And.intro (rowX (rowN rfl (show v209.length = (v209.map (eL I)).length by simp)) (fits_map (e := (eL I)) (fun _ => ⟨rfl, rfl⟩) _) (appfitJ (by first | simpa using g209 | (simp at g209 ⊢; omega)) rfl)) ?_)
                exact ⟨(v209 ++ r603), h, [], ⟨rfl, rfl, rfl, (congrArg (AV.row 2 1 0) (show (v209 ++ r603).length = (v209.length + (r603.map (eL I) : List PV).length) by simp)), rfl, trivial⟩, ⟨⟨rfl, rfl, rfl, rfl, rfl, trivial⟩, ⟨rfl, rfl, rfl, rfl, rfl, trivial⟩, (congrArg (Bk.row 49 1) (show (v209 ++ r603).map (eL I) = (v209.map (eL I)) ++ (r603.map (eL I)) by simp)), trivial⟩, rfl⟩
              · refine And.intro (show fits _ _ from ⟨⟨rfl, rfl⟩, trivial⟩) ?_
                refine Exists.intro ([].map I) (And.intro (rowX (rowN (show [] = [].map I by simp) (show 0 = ([].map I).length by simp)) (fits_map (e := I) (fun _ => ⟨rfl, rfl⟩) _) (appfitJ (by first | simpa using g211 | (simp at g211 ⊢; omega)) rfl)) ?_)
                refine Exists.intro ([I v208]) (And.intro (rowN rfl rfl) ?_)
                refine Exists.intro (a61.map I) (And.intro (rowX (rowN (show ([].map I) ++ (a61.map I) = a61.map I by simp) (show (0 + (a61.map I : List PV).length) = (a61.map I).length by simp)) (show fits _ _ from ⟨⟨rfl, rfl⟩, trivial⟩) (appfitJ (by first | simpa using g210 | (simp at g210 ⊢; omega)) rfl)) ?_)
                refine callP (ih_spec_l11Places a59 x445 (a61 ++ [v208]) _ hr603) (fun K hk => Exists.intro _ (And.intro (rowN (show (a61.map I) ++ [I v208] = (a61 ++ [v208]).map I by simp) (show ((0 + (a61.map I : List PV).length) + ([I v208] : List PV).length) = ((a61 ++ [v208]).map I).length by simp)) hk)) ?_
                refine Exists.intro (v209.map (eL I)) (And.intro (rowX (rowN rfl (show v209.length = (v209.map (eL I)).length by simp)) (fits_map (e := (eL I)) (fun _ => ⟨rfl, rfl⟩) _) (appfitJ (by first | simpa using g209 | (simp at g209 ⊢; omega)) rfl)) ?_)
                exact ⟨(v209 ++ r603), h, [], ⟨rfl, rfl, rfl, (congrArg (AV.row 2 1 0) (show (v209 ++ r603).length = (v209.length + (r603.map (eL I) : List PV).length) by simp)), rfl, trivial⟩, ⟨⟨rfl, rfl, rfl, rfl, rfl, trivial⟩, ⟨rfl, rfl, rfl, rfl, rfl, trivial⟩, (congrArg (Bk.row 49 1) (show (v209 ++ r603).map (eL I) = (v209.map (eL I)) ++ (r603.map (eL I)) by simp)), trivial⟩, rfl⟩
            · refine And.intro (show fits _ _ from ⟨⟨rfl, rfl⟩, trivial⟩) ?_
              refine And.intro (show fits _ _ from trivial) ?_
              refine Exists.intro ([].map I) (And.intro (rowX (rowN (show [] = [].map I by simp) (show 0 = ([].map I).length by simp)) (fits_map (e := I) (fun _ => ⟨rfl, rfl⟩) _) (appfitJ (by first | simpa using g211 | (simp at g211 ⊢; omega)) rfl)) ?_)
              refine Exists.intro ([I v208]) (And.intro (rowN rfl rfl) ?_)
              refine Exists.intro (a61.map I) (And.intro (rowX (rowN (show ([].map I) ++ (a61.map I) = a61.map I by simp) (show (0 + (a61.map I : List PV).length) = (a61.map I).length by simp)) (show fits _ _ from ⟨⟨rfl, rfl⟩, trivial⟩) (appfitJ (by first | simpa using g210 | (simp at g210 ⊢; omega)) rfl)) ?_)
              refine callP (ih_spec_l11Places a59 x445 (a61 ++ [v208]) _ hr603) (fun K hk => Exists.intro _ (And.intro (rowN (show (a61.map I) ++ [I v208] = (a61 ++ [v208]).map I by simp) (show ((0 + (a61.map I : List PV).length) + ([I v208] : List PV).length) = ((a61 ++ [v208]).map I).length by simp)) hk)) ?_
              refine Exists.intro (v209.map (eL I)) (And.intro (rowX (rowN rfl (show v209.length = (v209.map (eL I)).length by simp)) (fits_map (e := (eL I)) (fun _ => ⟨rfl, rfl⟩) _) (appfitJ (by first | simpa using g209 | (simp at g209 ⊢; omega)) rfl)) ?_)
              exact ⟨(v209 ++ r603), h, [], ⟨rfl, rfl, rfl, (congrArg (AV.row 2 1 0) (show (v209 ++ r603).length = (v209.length + (r603.map (eL I) : List PV).length) by simp)), rfl, trivial⟩, ⟨⟨rfl, rfl, rfl, rfl, rfl, trivial⟩, ⟨rfl, rfl, rfl, rfl, rfl, trivial⟩, (congrArg (Bk.row 49 1) (show (v209 ++ r603).map (eL I) = (v209.map (eL I)) ++ (r603.map (eL I)) by simp)), trivial⟩, rfl⟩
          · rintro v213 h
            unfold m_spec_l11Places_j10 at h
            exact ⟨((wr .i64 (v208 + 1)), v213), k9, h, Nat.lt_succ_self _, [], ⟨rfl, rfl, rfl, rfl, rfl, trivial⟩, ⟨⟨rfl, rfl, rfl, rfl, rfl, trivial⟩, ⟨rfl, rfl, rfl, rfl, rfl, trivial⟩, rfl, trivial⟩, rfl⟩
        · replace h := cF h c
          exact ⟨v209, h, [(999999, 2)], ⟨rfl, trivial⟩, ⟨rfl, trivial⟩, rfl⟩
      · rintro v206 h
        unfold m_spec_l11Places_j6 at h
        refine .inl ?_
        refine .inl (Exists.intro _ (And.intro (rowN rfl (show v206.length = (v206.map (eL I)).length by simp)) ?_))
        replace h := Option.some.inj h
        subst h
        exact ⟨[.p (.lst (v206.map (eL I)))], [], ⟨[], ⟨rfl, trivial⟩, trivial, rfl⟩, rfl, rfl, rfl⟩
def m_spec_Places_j2 (n : Nat) (a62 : Tree) (a63 : Tree) (v215 : Bool) : Option (List (List Int) × Int) :=
  bif v215 then (
    some ([], 1))
  else (
    (m_spec_l11Places n a62 a63 []).bind fun r612 =>
    some (r612, 0))
def m_spec_Places (n : Nat) (a62 : Tree) (a63 : Tree) : Option (List (List Int) × Int) :=
  (m_spec_l11Pattern n a62).bind fun r613 =>
  bif (!r613) then (
    m_spec_Places_j2 n a62 a63 true)
  else (
    (m_spec_TreeOK n a63).bind fun r614 =>
    m_spec_Places_j2 n a62 a63 (!r614))
theorem c_spec_Places (n : Nat) (a62 : Tree) (a63 : Tree) (r : List (List Int) × Int) (h : m_spec_Places n a62 a63 = some r) : FnP Try.prog 25 [a62.enc, a63.enc] [.lst (r.1.map (eL I)), I r.2] := by
  unfold m_spec_Places at h
  refine fn_introJ Try.func25 rfl rfl rfl ?_
  refine .inl ?_
  refine .inl ?_
  refine .inr ⟨Bool, fun x => ([(2, .ptr 0 0), (3, .ptr 1 0), (13, .p (B x))], [.box 31 [.p (S a62.nm), .p (S a62.tx), .p (B a62.lf), .p (.lst (encM a62.ks))], .box 31 [.p (S a63.nm), .p (S a63.tx), .p (B a63.lf), .p (.lst (encM a63.ks))]]), fun x => m_spec_Places_j2 n a62 a63 x = some r, ?_, ?_⟩
  · obtain ⟨r613, hr613, h⟩ := bsm h
    refine callA (c_spec_l11Pattern n a62 _ hr613) ?_
    refine And.intro (fun c => ?_) (fun c => ?_)
    · replace h := cF h c
      refine And.intro (fun _ => ?_) (fun c => absurd c (by decide))
      obtain ⟨r614, hr614, h⟩ := bsm h
      refine callA (c_spec_TreeOK n a63 _ hr614) ?_
      refine And.intro (fun _ => ?_) (fun c => absurd c (by decide))
      refine And.intro (fun c => absurd c (by decide)) (fun _ => ?_)
      exact ⟨(!r614), h, [], ⟨rfl, rfl, rfl, trivial⟩, ⟨⟨rfl, rfl, rfl, rfl, rfl, trivial⟩, ⟨rfl, rfl, rfl, rfl, rfl, trivial⟩, trivial⟩, rfl⟩
    · replace h := cT h c
      refine And.intro (fun c => absurd c (by decide)) (fun _ => ?_)
      refine And.intro (fun c => absurd c (by decide)) (fun _ => ?_)
      refine And.intro (fun _ => ?_) (fun c => absurd c (by decide))
      exact ⟨true, h, [], ⟨rfl, rfl, rfl, trivial⟩, ⟨⟨rfl, rfl, rfl, rfl, rfl, trivial⟩, ⟨rfl, rfl, rfl, rfl, rfl, trivial⟩, trivial⟩, rfl⟩
  · rintro v215 h
    unfold m_spec_Places_j2 at h
    refine And.intro (fun c => ?_) (fun c => ?_)
    · replace h := cT h c
      refine .inl ?_
      refine And.intro (show fits _ _ from trivial) ?_
      refine .inl (Exists.intro _ (And.intro (rowN (show [] = [].map (eL I) by simp) (show 0 = ([].map (eL I)).length by simp)) ?_))
      replace h := Option.some.inj h
      subst h
      exact ⟨[.p (.lst ([].map (eL I))), .p (I 1)], [], ⟨[], ⟨rfl, rfl, trivial⟩, trivial, rfl⟩, rfl, rfl, rfl⟩
    · replace h := cF h c
      refine .inl ?_
      refine And.intro (show fits _ _ from trivial) ?_
      obtain ⟨r612, hr612, h⟩ := bsm h
      refine callP (c_spec_l11Places n a62 a63 [] _ hr612) (fun K hk => Exists.intro _ (And.intro (rowN (show [] = [].map I by simp) (show 0 = ([].map I).length by simp)) hk)) ?_
      replace h := Option.some.inj h
      subst h
      exact ⟨[.p (.lst (r612.map (eL I))), .p (I 0)], [], ⟨[], ⟨rfl, rfl, trivial⟩, trivial, rfl⟩, rfl, rfl, rfl⟩
def m_impl_Places_1 (n : Nat) (a70 : Tree) (a71 : List Int) (a72 : Tree) (a73 : List (List Int)) : Option (Tree × List (List Int)) :=
  (m_impl_match n a72 a70 []).bind fun r621 =>
  bif r621.2 then (
    gp (([] : List Int).length + a71.length ≤ 68719476736) <|
    gp (a73.length + ([a71] : List (List Int)).length ≤ 68719476736) <|
    some (a72, (a73 ++ [a71])))
  else (
    some (a72, a73))
theorem c_impl_Places_1 (n : Nat) (a70 : Tree) (a71 : List Int) (a72 : Tree) (a73 : List (List Int)) (r : Tree × List (List Int)) (h : m_impl_Places_1 n a70 a71 a72 a73 = some r) : Sy.Fn Try.prog 84 [.p (a70.enc), .p (.lst (a71.map I)), .ptr 0 0, .ptr 1 0] [.box 31 [.p (S a72.nm), .p (S a72.tx), .p (B a72.lf), .p (.lst (encM a72.ks))], .box 44 [.row 2 1 0 a73.length], .row 49 1 (a73.map (eL I))] (fun rs τ' => rs = [] ∧ τ' = [.box 31 [.p (S r.1.nm), .p (S r.1.tx), .p (B r.1.lf), .p (.lst (encM r.1.ks))], .box 44 [.row 2 1 0 r.2.length], .row 49 1 (r.2.map (eL I))]) := by
  unfold m_impl_Places_1 at h
  refine fn_introJ Try.func84 rfl rfl rfl ?_
  refine .inl ?_
  refine .inl ?_
  obtain ⟨r621, hr621, h⟩ := bsm h
  refine callW (args' := [.p (a72.enc), .p (a70.enc), .row 0 5 0 [].length]) (τ0 := [.row 100 5 ([].map gBind.enc)]) [] [(100, 5)] (c_impl_match n a72 a70 [] _ hr621) (fun K hk => Or.inr hk) rfl ⟨rfl, rfl, ⟨rfl, rfl⟩, trivial⟩ ⟨rfl, trivial⟩ rfl ?_
  rintro rs τ' hl' ⟨rfl, rfl⟩
  refine .inl ?_
  refine And.intro (fun c => ?_) (fun c => ?_)
  · replace h := cT h c
    refine ⟨[0, 2, 1, 3, 4, 5, 1006], [2, 5], by decide +kernel, ?_⟩
    refine And.intro (show fits _ _ from trivial) ?_
    obtain ⟨g4, h⟩ := gpT h
    refine Exists.intro ([].map I) (And.intro (rowX (rowN (show [] = [].map I by simp) (show 0 = ([].map I).length by simp)) (fits_map (e := I) (fun _ => ⟨rfl, rfl⟩) _) (appfitJ (by first | simpa using g4 | (simp at g4 ⊢; omega)) rfl)) ?_)
    refine Exists.intro _ (And.intro (rowN (show ([].map I) ++ (a71.map I) = a71.map I by simp) (show (0 + (a71.map I : List PV).length) = (a71.map I).length by simp)) ?_)
    refine And.intro (show fits _ _ from ⟨⟨rfl, rfl⟩, trivial⟩) ?_
    obtain ⟨g3, h⟩ := gpT h
    refine Exists.intro ([.lst (a71.map I)]) (And.intro (rowN rfl rfl) ?_)
    refine Exists.intro (a73.map (eL I)) (And.intro (rowX (rowN rfl (show a73.length = (a73.map (eL I)).length by simp)) (show fits _ _ from ⟨⟨rfl, rfl⟩, trivial⟩) (appfitJ (by first | simpa using g3 | (simp at g3 ⊢; omega)) rfl)) ?_)
    replace h := Option.some.inj h
    subst h
    exact ⟨[], [.box 31 [.p (S a72.nm), .p (S a72.tx), .p (B a72.lf), .p (.lst (encM a72.ks))], .box 44 [.row 2 1 0 (a73 ++ [a71]).length], .row 49 1 ((a73 ++ [a71]).map (eL I))], ⟨[], trivial, ⟨⟨rfl, rfl, rfl, rfl, rfl, trivial⟩, ⟨rfl, (congrArg (AV.row 2 1 0) (show (a73 ++ [a71]).length = (a73.length + ([.lst (a71.map I)] : List PV).length) by simp)), trivial⟩, (congrArg (Bk.row 49 1) (show (a73 ++ [a71]).map (eL I) = (a73.map (eL I)) ++ [.lst (a71.map I)] by simp)), trivial⟩, rfl⟩, rfl, rfl, rfl⟩
  · replace h := cF h c
    replace h := Option.some.inj h
    subst h
    exact ⟨[], [.box 31 [.p (S a72.nm), .p (S a72.tx), .p (B a72.lf), .p (.lst (encM a72.ks))], .box 44 [.row 2 1 0 a73.length], .row 49 1 (a73.map (eL I))], ⟨[], trivial, ⟨⟨rfl, rfl, rfl, rfl, rfl, trivial⟩, ⟨rfl, rfl, trivial⟩, rfl, trivial⟩, rfl⟩, rfl, rfl, rfl⟩
def m_impl_each_f1_l1 (self_impl_each_f1 : Tree → List Int → Tree → List (List Int) → Option (Tree × List (List Int))) (a66 : Tree) (a67 : List Int) : Nat → Int → Tree → List (List Int) → Option (Tree × List (List Int))
  | 0, _, _, _ => none
  | k1 + 1, v218, v219, v220 =>
    bif (decide (v218 < ((encM a66.ks).length : Int))) then (
      (ix a66.ks v218).bind fun x448 =>
      gp (0 ≤ (0 : Int) ∧ (0 : Int) ≤ ((a67.map I).length : Int) ∧ ((a67.map I).length : Int) = ((a67.map I).length : Int) ∧ ((a67.map I).length : Int) ≤ ((a67.map I).length : Int)) <|
      gp (((a67.take ((a67.map I).length : Int).toNat).drop (0 : Int).toNat).length + ([v218] : List Int).length ≤ 68719476736) <|
      (self_impl_each_f1 x448 (((a67.take ((a67.map I).length : Int).toNat).drop (0 : Int).toNat) ++ [v218]) v219 v220).bind fun r628 =>
      (m_impl_each_f1_l1 self_impl_each_f1 a66 a67 k1) (wr .i64 (v218 + 1)) r628.1 r628.2)
    else (
      some (v219, v220))
def m_impl_each_f1 : Nat → Tree → List Int → Tree → List (List Int) → Option (Tree × List (List Int))
  | 0, _, _, _, _ => none
  | n + 1, a66, a67, a68, a69 =>
    (m_impl_Places_1 n a66 a67 a68 a69).bind fun r622 =>
    m_impl_each_f1_l1 (m_impl_each_f1 n) a66 a67 n 0 r622.1 r622.2
theorem c_impl_each_f1 : ∀ (n : Nat) (a66 : Tree) (a67 : List Int) (a68 : Tree) (a69 : List (List Int)) (r : Tree × List (List Int)) (h : m_impl_each_f1 n a66 a67 a68 a69 = some r), Sy.Fn Try.prog 83 [.p (a66.enc), .p (.lst (a67.map I)), .fn 84 [.ptr 0 0, .ptr 1 0]] [.box 31 [.p (S a68.nm), .p (S a68.tx), .p (B a68.lf), .p (.lst (encM a68.ks))], .box 44 [.row 2 1 0 a69.length], .row 49 1 (a69.map (eL I))] (fun rs τ' => rs = [] ∧ τ' = [.box 31 [.p (S r.1.nm), .p (S r.1.tx), .p (B r.1.lf), .p (.lst (encM r.1.ks))], .box 44 [.row 2 1 0 r.2.length], .row 49 1 (r.2.map (eL I))])
  | 0, _, _, _, _, r, h => ns h
  | n + 1, a66, a67, a68, a69, r, h => by
    have ih_impl_each_f1 := c_impl_each_f1 n
    unfold m_impl_each_f1 at h
    refine fn_introJ Try.func83 rfl rfl rfl ?_
    refine .inl ?_
    refine .inl ?_
    obtain ⟨r622, hr622, h⟩ := bsm h
    refine callW (args' := [.p (a66.enc), .p (.lst (a67.map I)), .ptr 0 0, .ptr 1 0]) (τ0 := [.box 31 [.p (S a68.nm), .p (S a68.tx), .p (B a68.lf), .p (.lst (encM a68.ks))], .box 44 [.row 2 1 0 a69.length], .row 49 1 (a69.map (eL I))]) [0, 1, 2] [] (c_impl_Places_1 n a66 a67 a68 a69 _ hr622) (fun K hk => hk) rfl ⟨rfl, rfl, rfl, rfl, trivial⟩ ⟨⟨rfl, rfl, rfl, rfl, rfl, trivial⟩, ⟨rfl, rfl, trivial⟩, rfl, trivial⟩ rfl ?_
    rintro rs τ' hl' ⟨rfl, rfl⟩
    refine .inl ?_
    refine ⟨Int × Tree × List (List Int), fun x => ([(1, .p (.lst (a67.map I))), (2, .fn 84 [.ptr 0 0, .ptr 1 0]), (13, .p (.lst (encM a66.ks))), (14, .p (I ((encM a66.ks).length : Int))), (15, .p (I x.1))], [.box 31 [.p (S x.2.1.nm), .p (S x.2.1.tx), .p (B x.2.1.lf), .p (.lst (encM x.2.1.ks))], .box 44 [.row 2 1 0 x.2.2.length], .row 49 1 (x.2.2.map (eL I))]), fun x k => m_impl_each_f1_l1 (m_impl_each_f1 n) a66 a67 k x.1 x.2.1 x.2.2 = some r, ⟨(0, r622.1, r622.2), n, h, [], ⟨rfl, rfl, rfl, rfl, rfl, trivial⟩, ⟨⟨rfl, rfl, rfl, rfl, rfl, trivial⟩, ⟨rfl, rfl, trivial⟩, rfl, trivial⟩, rfl⟩, ?_⟩
    rintro ⟨v218, v219, v220⟩ (_ | k1) h
    · exact ns h
    unfold m_impl_each_f1_l1 at h
    refine .inl ?_
    refine .inl ?_
    refine And.intro (fun c => ?_) (fun c => ?_)
    · replace h := cT h c
      refine .inl ?_
      refine .inl ?_
      obtain ⟨x448, hx448, h⟩ := bsm h
      refine And.intro (ix0 hx448) (Exists.intro _ (And.intro (encM_get (ixg hx448)) (And.intro rfl ?_)))
      refine ⟨[0, 1, 2, 3, 4, 5, 6, 7, 10, 8, 9, 11], [0, 1, 2], by decide +kernel, ?_⟩
      obtain ⟨g12, h⟩ := gpT h
      refine And.intro g12 (And.intro (.inr (hd_map (e := I) (fun _ => rfl) _)) ?_)
      refine And.intro (show fits _ _ from ⟨⟨rfl, rfl⟩, trivial⟩) ?_
      obtain ⟨g11, h⟩ := gpT h
      refine Exists.intro ([I v218]) (And.intro (rowN rfl rfl) ?_)
      refine And.intro ⟨.inr (by simp), (show fits _ (((a67.map I).take ((a67.map I).length : Int).toNat).drop (0 : Int).toNat) by rw [show ((a67.map I).take ((a67.map I).length : Int).toNat).drop (0 : Int).toNat = ((a67.take ((a67.map I).length : Int).toNat).drop (0 : Int).toNat).map I by simp]; exact (fits_map (e := I) (fun _ => ⟨rfl, rfl⟩) _)), (show fits _ _ from ⟨⟨rfl, rfl⟩, trivial⟩), appfitJ (by first | simpa using g11 | (simp at g11 ⊢; omega) | (simp at g11 ⊢; done)) rfl⟩ ?_
      obtain ⟨r628, hr628, h⟩ := bsm h
      refine callW (args' := [.p (x448.enc), .p (.lst ((((a67.take ((a67.map I).length : Int).toNat).drop (0 : Int).toNat) ++ [v218]).map I)), .fn 84 [.ptr 0 0, .ptr 1 0]]) (τ0 := [.box 31 [.p (S v219.nm), .p (S v219.tx), .p (B v219.lf), .p (.lst (encM v219.ks))], .box 44 [.row 2 1 0 v220.length], .row 49 1 (v220.map (eL I))]) [0, 1, 2] [] (ih_impl_each_f1 x448 (((a67.take ((a67.map I).length : Int).toNat).drop (0 : Int).toNat) ++ [v218]) v219 v220 _ hr628) (fun K hk => Or.inl (Exists.intro _ (And.intro (rowN (show (((a67.map I).take ((a67.map I).length : Int).toNat).drop (0 : Int).toNat) ++ [I v218] = (((a67.take ((a67.map I).length : Int).toNat).drop (0 : Int).toNat) ++ [v218]).map I by simp) (show ((((a67.map I).take ((a67.map I).length : Int).toNat).drop (0 : Int).toNat).length + ([I v218] : List PV).length) = ((((a67.take ((a67.map I).length : Int).toNat).drop (0 : Int).toNat) ++ [v218]).map I).length by simp)) (Or.inr hk)))) rfl ⟨rfl, (congrArg (fun z => AV.p (.lst z)) (show (((a67.take ((a67.map I).length : Int).toNat).drop (0 : Int).toNat) ++ [v218]).map I = (((a67.take ((a67.map I).length : Int).toNat).drop (0 : Int).toNat) ++ [v218]).map I by simp)), rfl, trivial⟩ ⟨⟨rfl, rfl, rfl, rfl, rfl, trivial⟩, ⟨rfl, rfl, trivial⟩, rfl, trivial⟩ rfl ?_
      rintro rs τ' hl' ⟨rfl, rfl⟩
      exact ⟨((wr .i64 (v218 + 1)), r628.1, r628.2), k1, h, Nat.lt_succ_self _, [], ⟨rfl, rfl, rfl, rfl, rfl, trivial⟩, ⟨⟨rfl, rfl, rfl, rfl, rfl, trivial⟩, ⟨rfl, rfl, trivial⟩, rfl, trivial⟩, rfl⟩
    · replace h := cF h c
      replace h := Option.some.inj h
      subst h
      exact ⟨[], [.box 31 [.p (S v219.nm), .p (S v219.tx), .p (B v219.lf), .p (.lst (encM v219.ks))], .box 44 [.row 2 1 0 v220.length], .row 49 1 (v220.map (eL I))], ⟨[], trivial, ⟨⟨rfl, rfl, rfl, rfl, rfl, trivial⟩, ⟨rfl, rfl, trivial⟩, rfl, trivial⟩, rfl⟩, rfl, rfl, rfl⟩
def m_impl_Places_j2 (n : Nat) (a64 : Tree) (a65 : Tree) (v217 : Bool) : Option (List (List Int) × Int) :=
  bif v217 then (
    some ([], 1))
  else (
    (m_impl_each_f1 n a65 [] a64 []).bind fun r629 =>
    some (r629.2, 0))
def m_impl_Places (n : Nat) (a64 : Tree) (a65 : Tree) : Option (List (List Int) × Int) :=
  (m_impl_patternTree n a64).bind fun r630 =>
  bif (!r630) then (
    m_impl_Places_j2 n a64 a65 true)
  else (
    (m_impl_TreeOK n a65).bind fun r631 =>
    m_impl_Places_j2 n a64 a65 (!r631))
theorem c_impl_Places (n : Nat) (a64 : Tree) (a65 : Tree) (r : List (List Int) × Int) (h : m_impl_Places n a64 a65 = some r) : FnP Try.prog 26 [a64.enc, a65.enc] [.lst (r.1.map (eL I)), I r.2] := by
  unfold m_impl_Places at h
  refine fn_introJ Try.func26 rfl rfl rfl ?_
  refine .inl ?_
  refine .inl ?_
  refine .inr ⟨Bool, fun x => ([(2, .ptr 0 0), (3, .ptr 1 0), (14, .p (B x))], [.box 31 [.p (S a64.nm), .p (S a64.tx), .p (B a64.lf), .p (.lst (encM a64.ks))], .box 31 [.p (S a65.nm), .p (S a65.tx), .p (B a65.lf), .p (.lst (encM a65.ks))]]), fun x => m_impl_Places_j2 n a64 a65 x = some r, ?_, ?_⟩
  · obtain ⟨r630, hr630, h⟩ := bsm h
    refine callA (c_impl_patternTree n a64 _ hr630) ?_
    refine And.intro (fun c => ?_) (fun c => ?_)
    · replace h := cF h c
      refine And.intro (fun _ => ?_) (fun c => absurd c (by decide))
      obtain ⟨r631, hr631, h⟩ := bsm h
      refine callA (c_impl_TreeOK n a65 _ hr631) ?_
      refine And.intro (fun _ => ?_) (fun c => absurd c (by decide))
      refine And.intro (fun c => absurd c (by decide)) (fun _ => ?_)
      exact ⟨(!r631), h, [], ⟨rfl, rfl, rfl, trivial⟩, ⟨⟨rfl, rfl, rfl, rfl, rfl, trivial⟩, ⟨rfl, rfl, rfl, rfl, rfl, trivial⟩, trivial⟩, rfl⟩
    · replace h := cT h c
      refine And.intro (fun c => absurd c (by decide)) (fun _ => ?_)
      refine And.intro (fun c => absurd c (by decide)) (fun _ => ?_)
      refine And.intro (fun _ => ?_) (fun c => absurd c (by decide))
      exact ⟨true, h, [], ⟨rfl, rfl, rfl, trivial⟩, ⟨⟨rfl, rfl, rfl, rfl, rfl, trivial⟩, ⟨rfl, rfl, rfl, rfl, rfl, trivial⟩, trivial⟩, rfl⟩
  · rintro v217 h
    unfold m_impl_Places_j2 at h
    refine And.intro (fun c => ?_) (fun c => ?_)
    · replace h := cT h c
      refine .inl ?_
      refine .inl ?_
      replace h := Option.some.inj h
      subst h
      exact ⟨[.p (.lst ([].map (eL I))), .p (I 1)], [], ⟨[], ⟨rfl, rfl, trivial⟩, trivial, rfl⟩, rfl, rfl, rfl⟩
    · replace h := cF h c
      refine .inl ?_
      refine .inl ?_
      obtain ⟨r629, hr629, h⟩ := bsm h
      refine callW (args' := [.p (a65.enc), .p (.lst ([].map I)), .fn 84 [.ptr 0 0, .ptr 1 0]]) (τ0 := [.box 31 [.p (S a64.nm), .p (S a64.tx), .p (B a64.lf), .p (.lst (encM a64.ks))], .box 44 [.row 2 1 0 [].length], .row 49 1 ([].map (eL I))]) [0, 2] [(49, 1)] (c_impl_each_f1 n a65 [] a64 [] _ hr629) (fun K hk => Or.inl (Or.inr hk)) rfl ⟨rfl, rfl, rfl, trivial⟩ ⟨⟨rfl, rfl, rfl, rfl, rfl, trivial⟩, ⟨rfl, ⟨rfl, rfl⟩, trivial⟩, rfl, trivial⟩ rfl ?_
      rintro rs τ' hl' ⟨rfl, rfl⟩
      refine .inl ?_
      refine .inl (Exists.intro _ (And.intro (rowN rfl (show r629.2.length = (r629.2.map (eL I)).length by simp)) ?_))
      replace h := Option.some.inj h
      subst h
      exact ⟨[.p (.lst (r629.2.map (eL I))), .p (I 0)], [], ⟨[], ⟨rfl, rfl, trivial⟩, trivial, rfl⟩, rfl, rfl, rfl⟩
def m_laws_sameInts_j2 : Option Bool :=
  some true
def m_laws_sameInts_l3 (a74 : List Int) (a75 : List Int) : Nat → Int → Option Bool
  | 0, _ => none
  | k3 + 1, v226 =>
    bif (decide (v226 < ((a74.map I).length : Int))) then (
      (ix a74 v226).bind fun x471 =>
      (ix a75 v226).bind fun x472 =>
      bif (x471 != x472) then (
        some false)
      else (
        (m_laws_sameInts_l3 a74 a75 k3) (wr .i64 (v226 + 1))))
    else (
      m_laws_sameInts_j2)
def m_laws_sameInts (n : Nat) (a74 : List Int) (a75 : List Int) : Option Bool :=
  bif (((a74.map I).length : Int) != ((a75.map I).length : Int)) then (
    some false)
  else (
    m_laws_sameInts_l3 a74 a75 n 0)
theorem c_laws_sameInts (n : Nat) (a74 : List Int) (a75 : List Int) (r : Bool) (h : m_laws_sameInts n a74 a75 = some r) : FnP Try.prog 41 [.lst (a74.map I), .lst (a75.map I)] [B r] := by
  unfold m_laws_sameInts at h
  refine fn_introJ Try.func41 rfl rfl rfl ?_
  refine .inl ?_
  refine .inl ?_
  refine .inl ?_
  refine And.intro (fun c => ?_) (fun c => ?_)
  · replace h := cT h c
    refine .inl ?_
    replace h := Option.some.inj h
    subst h
    exact ⟨[.p (B false)], [], ⟨[], ⟨rfl, trivial⟩, trivial, rfl⟩, rfl, rfl, rfl⟩
  · replace h := cF h c
    refine .inr ⟨Unit, fun x => ([], []), fun x => m_laws_sameInts_j2 = some r, ?_, ?_⟩
    · refine .inl ?_
      refine ⟨Int, fun x => ([(0, .p (.lst (a74.map I))), (1, .p (.lst (a75.map I))), (5, .p (I x))], []), fun x k => m_laws_sameInts_l3 a74 a75 k x = some r, ⟨0, n, h, [], ⟨rfl, rfl, rfl, trivial⟩, trivial, rfl⟩, ?_⟩
      rintro v226 (_ | k3) h
      · exact ns h
      unfold m_laws_sameInts_l3 at h
      refine .inl ?_
      refine .inl ?_
      refine And.intro (fun c => ?_) (fun c => ?_)
      · replace h := cT h c
        refine .inl ?_
        refine .inl ?_
        refine ⟨[0, 1, 2, 3, 4, 5, 6, 7, 8], [], by decide +kernel, ?_⟩
        obtain ⟨x471, hx471, h⟩ := bsm h
        refine And.intro (ix0 hx471) (Exists.intro _ (And.intro (gm (ixg hx471)) (And.intro rfl ?_)))
        obtain ⟨x472, hx472, h⟩ := bsm h
        refine And.intro (ix0 hx472) (Exists.intro _ (And.intro (gm (ixg hx472)) (And.intro rfl ?_)))
        refine And.intro (fun c => ?_) (fun c => ?_)
        · replace h := cT h c
          refine .inl ?_
          replace h := Option.some.inj h
          subst h
          exact ⟨[.p (B false)], [], ⟨[], ⟨rfl, trivial⟩, trivial, rfl⟩, rfl, rfl, rfl⟩
        · replace h := cF h c
          exact ⟨(wr .i64 (v226 + 1)), k3, h, Nat.lt_succ_self _, [], ⟨rfl, rfl, rfl, trivial⟩, trivial, rfl⟩
      · replace h := cF h c
        exact ⟨(), h, [], trivial, trivial, rfl⟩
    · rintro _ h
      unfold m_laws_sameInts_j2 at h
      refine .inl ?_
      replace h := Option.some.inj h
      subst h
      exact ⟨[.p (B true)], [], ⟨[], ⟨rfl, trivial⟩, trivial, rfl⟩, rfl, rfl, rfl⟩
def m_laws_sameRows_j2 : Option Bool :=
  some true
def m_laws_sameRows_l3 (n : Nat) (a76 : List (List Int)) (a77 : List (List Int)) : Nat → Int → Option Bool
  | 0, _ => none
  | k3 + 1, v230 =>
    bif (decide (v230 < ((a76.map (eL I)).length : Int))) then (
      (ix a76 v230).bind fun x495 =>
      (ix a77 v230).bind fun x496 =>
      (m_laws_sameInts n x495 x496).bind fun r643 =>
      bif (!r643) then (
        some false)
      else (
        (m_laws_sameRows_l3 n a76 a77 k3) (wr .i64 (v230 + 1))))
    else (
      m_laws_sameRows_j2)
def m_laws_sameRows (n : Nat) (a76 : List (List Int)) (a77 : List (List Int)) : Option Bool :=
  bif (((a76.map (eL I)).length : Int) != ((a77.map (eL I)).length : Int)) then (
    some false)
  else (
    m_laws_sameRows_l3 n a76 a77 n 0)
theorem c_laws_sameRows (n : Nat) (a76 : List (List Int)) (a77 : List (List Int)) (r : Bool) (h : m_laws_sameRows n a76 a77 = some r) : FnP Try.prog 27 [.lst (a76.map (eL I)), .lst (a77.map (eL I))] [B r] := by
  unfold m_laws_sameRows at h
  refine fn_introJ Try.func27 rfl rfl rfl ?_
  refine .inl ?_
  refine .inl ?_
  refine .inl ?_
  refine And.intro (fun c => ?_) (fun c => ?_)
  · replace h := cT h c
    refine .inl ?_
    replace h := Option.some.inj h
    subst h
    exact ⟨[.p (B false)], [], ⟨[], ⟨rfl, trivial⟩, trivial, rfl⟩, rfl, rfl, rfl⟩
  · replace h := cF h c
    refine .inr ⟨Unit, fun x => ([], []), fun x => m_laws_sameRows_j2 = some r, ?_, ?_⟩
    · refine .inl ?_
      refine ⟨Int, fun x => ([(0, .p (.lst (a76.map (eL I)))), (1, .p (.lst (a77.map (eL I)))), (5, .p (I x))], []), fun x k => m_laws_sameRows_l3 n a76 a77 k x = some r, ⟨0, n, h, [], ⟨rfl, rfl, rfl, trivial⟩, trivial, rfl⟩, ?_⟩
      rintro v230 (_ | k3) h
      · exact ns h
      unfold m_laws_sameRows_l3 at h
      refine .inl ?_
      refine .inl ?_
      refine And.intro (fun c => ?_) (fun c => ?_)
      · replace h := cT h c
        refine .inl ?_
        refine .inl ?_
        refine ⟨[0, 1, 2, 3, 4, 5, 6, 7, 8, 9], [], by decide +kernel, ?_⟩
        obtain ⟨x495, hx495, h⟩ := bsm h
        refine And.intro (ix0 hx495) (Exists.intro _ (And.intro (gm (ixg hx495)) (And.intro rfl ?_)))
        obtain ⟨x496, hx496, h⟩ := bsm h
        refine And.intro (ix0 hx496) (Exists.intro _ (And.intro (gm (ixg hx496)) (And.intro rfl ?_)))
        obtain ⟨r643, hr643, h⟩ := bsm h
        refine callA (c_laws_sameInts n x495 x496 _ hr643) ?_
        refine And.intro (fun c => ?_) (fun c => ?_)
        · replace h := cT h c
          refine .inl ?_
          replace h := Option.some.inj h
          subst h
          exact ⟨[.p (B false)], [], ⟨[], ⟨rfl, trivial⟩, trivial, rfl⟩, rfl, rfl, rfl⟩
        · replace h := cF h c
          exact ⟨(wr .i64 (v230 + 1)), k3, h, Nat.lt_succ_self _, [], ⟨rfl, rfl, rfl, trivial⟩, trivial, rfl⟩
      · replace h := cF h c
        exact ⟨(), h, [], trivial, trivial, rfl⟩
    · rintro _ h
      unfold m_laws_sameRows_j2 at h
      refine .inl ?_
      replace h := Option.some.inj h
      subst h
      exact ⟨[.p (B true)], [], ⟨[], ⟨rfl, trivial⟩, trivial, rfl⟩, rfl, rfl, rfl⟩
def m_impl_at_j8 (v242 : Tree) : Option (Tree × Bool) :=
  some (v242, true)
def m_impl_at_j15 (v245 : Int) (v246 : Tree) (rec13 : Int → Tree → Option (Tree × Bool)) (x507 : Int) (v252 : Bool) : Option (Tree × Bool) :=
  bif v252 then (
    some ((Tree.mk ⟨#[]⟩ ⟨#[]⟩ false []), false))
  else (
    (ix v246.ks x507).bind fun x508 =>
    rec13 (wr .i64 (v245 + 1)) x508)
def m_impl_at_l13 (a79 : List Int) : Nat → Int → Tree → Option (Tree × Bool)
  | 0, _, _ => none
  | k13 + 1, v245, v246 =>
    bif (decide (v245 < ((a79.map I).length : Int))) then (
      (ix a79 v245).bind fun x507 =>
      bif (decide (x507 < 0)) then (
        m_impl_at_j15 v245 v246 (m_impl_at_l13 a79 k13) x507 true)
      else (
        m_impl_at_j15 v245 v246 (m_impl_at_l13 a79 k13) x507 (decide (x507 ≥ ((encM v246.ks).length : Int)))))
    else (
      m_impl_at_j8 v246)
def m_impl_at (n : Nat) (a78 : Tree) (a79 : List Int) : Option (Tree × Bool) :=
  m_impl_at_l13 a79 n 0 a78
theorem c_impl_at (n : Nat) (a78 : Tree) (a79 : List Int) (r : Tree × Bool) (h : m_impl_at n a78 a79 = some r) : FnP Try.prog 85 [a78.enc, .lst (a79.map I)] [r.1.enc, B r.2] := by
  unfold m_impl_at at h
  refine fn_introJ Try.func85 rfl rfl rfl ?_
  refine .inl ?_
  refine .inr ⟨Tree, fun x => ([(2, .ptr 0 0), (4, .ptr 1 0)], [.box 31 [.p (S x.nm), .p (S x.tx), .p (B x.lf), .p (.lst (encM x.ks))], .box 31 [.p (S ⟨#[]⟩), .p (S ⟨#[]⟩), .p (B false), .tl []]]), fun x => m_impl_at_j8 x = some r, ?_, ?_⟩
  · refine .inl ?_
    refine ⟨Int × Tree, fun x => ([(2, .ptr 0 0), (4, .ptr 1 0), (8, .p (.lst (a79.map I))), (9, .p (I ((a79.map I).length : Int))), (10, .p (I x.1))], [.box 31 [.p (S x.2.nm), .p (S x.2.tx), .p (B x.2.lf), .p (.lst (encM x.2.ks))], .box 31 [.p (S ⟨#[]⟩), .p (S ⟨#[]⟩), .p (B false), .tl []]]), fun x k => m_impl_at_l13 a79 k x.1 x.2 = some r, ⟨(0, a78), n, h, [], ⟨rfl, rfl, rfl, rfl, rfl, trivial⟩, ⟨⟨rfl, rfl, rfl, rfl, rfl, trivial⟩, ⟨rfl, rfl, rfl, rfl, rfl, trivial⟩, trivial⟩, rfl⟩, ?_⟩
    rintro ⟨v245, v246⟩ (_ | k13) h
    · exact ns h
    unfold m_impl_at_l13 at h
    refine .inl ?_
    refine .inl ?_
    refine And.intro (fun c => ?_) (fun c => ?_)
    · replace h := cT h c
      refine .inl ?_
      refine .inl ?_
      obtain ⟨x507, hx507, h⟩ := bsm h
      refine And.intro (ix0 hx507) (Exists.intro _ (And.intro (gm (ixg hx507)) (And.intro rfl ?_)))
      refine .inl ?_
      refine .inr ⟨Bool, fun x => ([(2, .ptr 0 0), (4, .ptr 1 0), (7, .p (I x507)), (8, .p (.lst (a79.map I))), (9, .p (I ((a79.map I).length : Int))), (10, .p (I v245)), (22, .p (B x))], [.box 31 [.p (S v246.nm), .p (S v246.tx), .p (B v246.lf), .p (.lst (encM v246.ks))], .box 31 [.p (S ⟨#[]⟩), .p (S ⟨#[]⟩), .p (B false), .tl []]]), fun x => m_impl_at_j15 v245 v246 (m_impl_at_l13 a79 k13) x507 x = some r, ?_, ?_⟩
      · refine And.intro (fun c => ?_) (fun c => ?_)
        · replace h := cF h c
          refine And.intro (fun _ => ?_) (fun c => absurd c (by decide))
          refine And.intro (fun _ => ?_) (fun c => absurd c (by decide))
          refine And.intro (fun _ => ?_) (fun c => absurd c (by decide))
          refine And.intro (fun _ => ?_) (fun c => absurd c (by decide))
          refine And.intro (fun c => absurd c (by decide)) (fun _ => ?_)
          exact ⟨(decide (x507 ≥ ((encM v246.ks).length : Int))), h, [], ⟨rfl, rfl, rfl, rfl, rfl, rfl, rfl, trivial⟩, ⟨⟨rfl, rfl, rfl, rfl, rfl, trivial⟩, ⟨rfl, rfl, rfl, rfl, rfl, trivial⟩, trivial⟩, rfl⟩
        · replace h := cT h c
          refine And.intro (fun c => absurd c (by decide)) (fun _ => ?_)
          refine And.intro (fun c => absurd c (by decide)) (fun _ => ?_)
          refine And.intro (fun c => absurd c (by decide)) (fun _ => ?_)
          refine And.intro (fun c => absurd c (by decide)) (fun _ => ?_)
          refine And.intro (fun _ => ?_) (fun c => absurd c (by decide))
          exact ⟨true, h, [], ⟨rfl, rfl, rfl, rfl, rfl, rfl, rfl, trivial⟩, ⟨⟨rfl, rfl, rfl, rfl, rfl, trivial⟩, ⟨rfl, rfl, rfl, rfl, rfl, trivial⟩, trivial⟩, rfl⟩
      · rintro v252 h
        unfold m_impl_at_j15 at h
        refine And.intro (fun c => ?_) (fun c => ?_)
        · replace h := cT h c
          refine .inl ?_
          refine .inl ?_
          replace h := Option.some.inj h
          subst h
          exact ⟨[.p ((Tree.mk ⟨#[]⟩ ⟨#[]⟩ false []).enc), .p (B false)], [], ⟨[], ⟨rfl, rfl, trivial⟩, trivial, rfl⟩, rfl, rfl, rfl⟩
        · replace h := cF h c
          obtain ⟨x508, hx508, h⟩ := bsm h
          refine And.intro (ix0 hx508) (Exists.intro _ (And.intro (encM_get (ixg hx508)) (And.intro rfl ?_)))
          exact ⟨((wr .i64 (v245 + 1)), x508), k13, h, Nat.lt_succ_self _, [], ⟨rfl, rfl, rfl, rfl, rfl, trivial⟩, ⟨⟨rfl, rfl, rfl, rfl, rfl, trivial⟩, ⟨rfl, rfl, rfl, rfl, rfl, trivial⟩, trivial⟩, rfl⟩
    · replace h := cF h c
      exact ⟨v246, h, [], ⟨rfl, rfl, trivial⟩, ⟨⟨rfl, rfl, rfl, rfl, rfl, trivial⟩, ⟨rfl, rfl, rfl, rfl, rfl, trivial⟩, trivial⟩, rfl⟩
  · rintro v242 h
    unfold m_impl_at_j8 at h
    refine .inl ?_
    replace h := Option.some.inj h
    subst h
    exact ⟨[.p (v242.enc), .p (B true)], [], ⟨[], ⟨rfl, rfl, trivial⟩, trivial, rfl⟩, rfl, rfl, rfl⟩
def m_impl_TreeAt (n : Nat) (a80 : Tree) (a81 : List Int) : Option (Tree × Int) :=
  (m_impl_TreeOK n a80).bind fun r644 =>
  bif (!r644) then (
    some ((Tree.mk ⟨#[]⟩ ⟨#[]⟩ false []), 1))
  else (
    (m_impl_at n a80 a81).bind fun r645 =>
    bif (!r645.2) then (
      some ((Tree.mk ⟨#[]⟩ ⟨#[]⟩ false []), 4))
    else (
      (m_impl_copyTree n r645.1).bind fun r646 =>
      some (r646, 0)))
theorem c_impl_TreeAt (n : Nat) (a80 : Tree) (a81 : List Int) (r : Tree × Int) (h : m_impl_TreeAt n a80 a81 = some r) : FnP Try.prog 28 [a80.enc, .lst (a81.map I)] [r.1.enc, I r.2] := by
  unfold m_impl_TreeAt at h
  refine fn_introJ Try.func28 rfl rfl rfl ?_
  refine .inl ?_
  refine .inl ?_
  refine .inl ?_
  obtain ⟨r644, hr644, h⟩ := bsm h
  refine callA (c_impl_TreeOK n a80 _ hr644) ?_
  refine And.intro (fun c => ?_) (fun c => ?_)
  · replace h := cT h c
    refine .inl ?_
    refine .inl ?_
    replace h := Option.some.inj h
    subst h
    exact ⟨[.p ((Tree.mk ⟨#[]⟩ ⟨#[]⟩ false []).enc), .p (I 1)], [], ⟨[], ⟨rfl, rfl, trivial⟩, trivial, rfl⟩, rfl, rfl, rfl⟩
  · replace h := cF h c
    refine .inl ?_
    obtain ⟨r645, hr645, h⟩ := bsm h
    refine callA (c_impl_at n a80 a81 _ hr645) ?_
    refine .inl ?_
    refine .inl ?_
    refine And.intro (fun c => ?_) (fun c => ?_)
    · replace h := cT h c
      refine .inl ?_
      refine .inl ?_
      replace h := Option.some.inj h
      subst h
      exact ⟨[.p ((Tree.mk ⟨#[]⟩ ⟨#[]⟩ false []).enc), .p (I 4)], [], ⟨[], ⟨rfl, rfl, trivial⟩, trivial, rfl⟩, rfl, rfl, rfl⟩
    · replace h := cF h c
      refine .inl ?_
      obtain ⟨r646, hr646, h⟩ := bsm h
      refine callA (c_impl_copyTree n r645.1 _ hr646) ?_
      replace h := Option.some.inj h
      subst h
      exact ⟨[.p (r646.enc), .p (I 0)], [], ⟨[], ⟨rfl, rfl, trivial⟩, trivial, rfl⟩, rfl, rfl, rfl⟩
def m_laws_FnMatched_j12 (r651 : List gBind × Bool × Int) (v272 : Int) : Option Bool :=
  some (xor false (r651.2.1 == (v272 == 1)))
def m_laws_FnMatched_j21 (v279 : Int) (rec19 : Int → Int → Option Bool) (v289 : Int) : Option Bool :=
  rec19 v289 (wr .i64 (v279 + 1))
def m_laws_FnMatched_j22 (n : Nat) (r648 : Tree × Tree) (r655 : List (List Int) × Int) (v278 : Int) (v279 : Int) (rec19 : Int → Int → Option Bool) (v290 : Int) (v291 : Tree) : Option Bool :=
  bif (v290 != 0) then (
    some false)
  else (
    (m_impl_Match n r648.1 v291).bind fun r761 =>
    bif (r761.2.2 != 0) then (
      some false)
    else (
      bif (!r761.2.1) then (
        some false)
      else (
        (ix r655.1 v279).bind fun x566 =>
        bif (((x566.map I).length : Int) == 0) then (
          m_laws_FnMatched_j21 v279 rec19 (wr .i64 (v278 + 1)))
        else (
          m_laws_FnMatched_j21 v279 rec19 v278))))
def m_laws_FnMatched_l19 (n : Nat) (r648 : Tree × Tree) (r651 : List gBind × Bool × Int) (r655 : List (List Int) × Int) : Nat → Int → Int → Option Bool
  | 0, _, _ => none
  | k19 + 1, v278, v279 =>
    bif (decide (v279 < ((r655.1.map (eL I)).length : Int))) then (
      (ix r655.1 v279).bind fun x568 =>
      (m_impl_TreeAt n r648.2 x568).bind fun r764 =>
      m_laws_FnMatched_j22 n r648 r655 v278 v279 (m_laws_FnMatched_l19 n r648 r651 r655 k19) r764.2 r764.1)
    else (
      m_laws_FnMatched_j12 r651 v278)
def m_laws_FnMatched_j1 (n : Nat) (r648 : Tree × Tree) (r651 : List gBind × Bool × Int) : Option Bool :=
  (m_spec_Places n r648.1 r648.2).bind fun r654 =>
  (m_impl_Places n r648.1 r648.2).bind fun r655 =>
  bif (r655.2 != 0) then (
    some false)
  else (
    (m_laws_sameRows n r655.1 r654.1).bind fun r657 =>
    bif (!r657) then (
      some false)
    else (
      m_laws_FnMatched_l19 n r648 r651 r655 n 0 0))
def m_laws_FnMatched (n : Nat) (a82 : List UInt8) : Option Bool :=
  (m_laws_big n a82).bind fun r647 =>
  bif r647 then (
    some true)
  else (
    (m_spec_DrawMatch n a82).bind fun r648 =>
    (m_spec_DrawMatch n a82).bind fun r649 =>
    (m_spec_Match n r649.1 r649.2).bind fun r650 =>
    (m_impl_Match n r648.1 r648.2).bind fun r651 =>
    bif (xor true (r651.2.1 == r650.2.1)) then (
      some false)
    else (
      bif (r651.2.2 != r650.2.2) then (
        some false)
      else (
        bif (r651.2.2 != 0) then (
          some true)
        else (
          bif r651.2.1 then (
            (m_impl_Fill n r648.1 r651.1).bind fun r766 =>
            bif (r766.2 != 0) then (
              some false)
            else (
              (m_laws_sameTree n r766.1 r648.2).bind fun r767 =>
              bif (!r767) then (
                some false)
              else (
                m_laws_FnMatched_j1 n r648 r651)))
          else (
            m_laws_FnMatched_j1 n r648 r651)))))
theorem c_laws_FnMatched (n : Nat) (a82 : List UInt8) (r : Bool) (h : m_laws_FnMatched n a82 = some r) : FnP Try.prog 4 [.lst (bl a82)] [B r] := by
  unfold m_laws_FnMatched at h
  refine fn_introJ Try.func4 rfl rfl rfl ?_
  refine .inl ?_
  refine .inl ?_
  refine .inl ?_
  obtain ⟨r647, hr647, h⟩ := bsm h
  refine callA (c_laws_big n a82 _ hr647) ?_
  refine And.intro (fun c => ?_) (fun c => ?_)
  · replace h := cT h c
    refine .inl ?_
    replace h := Option.some.inj h
    subst h
    exact ⟨[.p (B true)], [], ⟨[], ⟨rfl, trivial⟩, trivial, rfl⟩, rfl, rfl, rfl⟩
  · replace h := cF h c
    refine .inl ?_
    obtain ⟨r648, hr648, h⟩ := bsm h
    refine callA (c_spec_DrawMatch n a82 _ hr648) ?_
    refine .inl ?_
    obtain ⟨r649, hr649, h⟩ := bsm h
    refine callA (c_spec_DrawMatch n a82 _ hr649) ?_
    obtain ⟨r650, hr650, h⟩ := bsm h
    refine callA (c_spec_Match n r649.1 r649.2 _ hr650) ?_
    refine .inl ?_
    obtain ⟨r651, hr651, h⟩ := bsm h
    refine callA (c_impl_Match n r648.1 r648.2 _ hr651) ?_
    refine .inl ?_
    refine .inl ?_
    refine And.intro (fun c => ?_) (fun c => ?_)
    · replace h := cF h c
      refine And.intro (fun _ => ?_) (fun c => absurd c (by decide))
      refine And.intro (fun _ => ?_) (fun c => absurd c (by decide))
      refine And.intro (fun c => absurd c (by decide)) (fun _ => ?_)
      refine And.intro (fun c => ?_) (fun c => ?_)
      · replace h := cT h c
        refine .inl ?_
        replace h := Option.some.inj h
        subst h
        exact ⟨[.p (B false)], [], ⟨[], ⟨rfl, trivial⟩, trivial, rfl⟩, rfl, rfl, rfl⟩
      · replace h := cF h c
        refine .inl ?_
        refine .inl ?_
        refine And.intro (fun c => ?_) (fun c => ?_)
        · replace h := cT h c
          refine .inl ?_
          replace h := Option.some.inj h
          subst h
          exact ⟨[.p (B true)], [], ⟨[], ⟨rfl, trivial⟩, trivial, rfl⟩, rfl, rfl, rfl⟩
        · replace h := cF h c
          refine .inr ⟨Unit, fun x => ([(3, .ptr 0 0), (4, .ptr 1 0), (9, .p (B r651.2.1))], [.box 31 [.p (S r648.1.nm), .p (S r648.1.tx), .p (B r648.1.lf), .p (.lst (encM r648.1.ks))], .box 31 [.p (S r648.2.nm), .p (S r648.2.tx), .p (B r648.2.lf), .p (.lst (encM r648.2.ks))]]), fun x => m_laws_FnMatched_j1 n r648 r651 = some r, ?_, ?_⟩
          · refine .inl ?_
            refine And.intro (fun c => ?_) (fun c => ?_)
            · replace h := cT h c
              refine .inl ?_
              obtain ⟨r766, hr766, h⟩ := bsm h
              refine callA (c_impl_Fill n r648.1 r651.1 _ hr766) ?_
              refine .inl ?_
              refine And.intro (fun c => ?_) (fun c => ?_)
              · replace h := cF h c
                refine And.intro (fun _ => ?_) (fun c => absurd c (by decide))
                refine And.intro (fun _ => ?_) (fun c => absurd c (by decide))
                obtain ⟨r767, hr767, h⟩ := bsm h
                refine callA (c_laws_sameTree n r766.1 r648.2 _ hr767) ?_
                refine And.intro (fun _ => ?_) (fun c => absurd c (by decide))
                refine And.intro (fun c => absurd c (by decide)) (fun _ => ?_)
                refine And.intro (fun c => ?_) (fun c => ?_)
                · replace h := cT h c
                  refine .inl ?_
                  replace h := Option.some.inj h
                  subst h
                  exact ⟨[.p (B false)], [], ⟨[], ⟨rfl, trivial⟩, trivial, rfl⟩, rfl, rfl, rfl⟩
                · replace h := cF h c
                  exact ⟨(), h, [], ⟨rfl, rfl, rfl, trivial⟩, ⟨⟨rfl, rfl, rfl, rfl, rfl, trivial⟩, ⟨rfl, rfl, rfl, rfl, rfl, trivial⟩, trivial⟩, rfl⟩
              · replace h := cT h c
                refine And.intro (fun c => absurd c (by decide)) (fun _ => ?_)
                refine And.intro (fun c => absurd c (by decide)) (fun _ => ?_)
                refine And.intro (fun c => absurd c (by decide)) (fun _ => ?_)
                refine And.intro (fun _ => ?_) (fun c => absurd c (by decide))
                refine And.intro (fun _ => ?_) (fun c => absurd c (by decide))
                refine .inl ?_
                replace h := Option.some.inj h
                subst h
                exact ⟨[.p (B false)], [], ⟨[], ⟨rfl, trivial⟩, trivial, rfl⟩, rfl, rfl, rfl⟩
            · replace h := cF h c
              exact ⟨(), h, [], ⟨rfl, rfl, rfl, trivial⟩, ⟨⟨rfl, rfl, rfl, rfl, rfl, trivial⟩, ⟨rfl, rfl, rfl, rfl, rfl, trivial⟩, trivial⟩, rfl⟩
          · rintro _ h
            unfold m_laws_FnMatched_j1 at h
            refine .inl ?_
            obtain ⟨r654, hr654, h⟩ := bsm h
            refine callA (c_spec_Places n r648.1 r648.2 _ hr654) ?_
            refine .inl ?_
            obtain ⟨r655, hr655, h⟩ := bsm h
            refine callA (c_impl_Places n r648.1 r648.2 _ hr655) ?_
            refine .inl ?_
            refine .inl ?_
            refine And.intro (fun c => ?_) (fun c => ?_)
            · replace h := cF h c
              refine And.intro (fun _ => ?_) (fun c => absurd c (by decide))
              refine And.intro (fun _ => ?_) (fun c => absurd c (by decide))
              obtain ⟨r657, hr657, h⟩ := bsm h
              refine callA (c_laws_sameRows n r655.1 r654.1 _ hr657) ?_
              refine And.intro (fun _ => ?_) (fun c => absurd c (by decide))
              refine And.intro (fun c => absurd c (by decide)) (fun _ => ?_)
              refine And.intro (fun c => ?_) (fun c => ?_)
              · replace h := cT h c
                refine .inl ?_
                replace h := Option.some.inj h
                subst h
                exact ⟨[.p (B false)], [], ⟨[], ⟨rfl, trivial⟩, trivial, rfl⟩, rfl, rfl, rfl⟩
              · replace h := cF h c
                refine .inl ?_
                refine .inr ⟨Int, fun x => ([(9, .p (B r651.2.1)), (16, .p (I x))], []), fun x => m_laws_FnMatched_j12 r651 x = some r, ?_, ?_⟩
                · refine .inl ?_
                  refine ⟨Int × Int, fun x => ([(3, .ptr 0 0), (4, .ptr 1 0), (9, .p (B r651.2.1)), (15, .p (.lst (r655.1.map (eL I)))), (16, .p (I x.1)), (17, .p (I x.2))], [.box 31 [.p (S r648.1.nm), .p (S r648.1.tx), .p (B r648.1.lf), .p (.lst (encM r648.1.ks))], .box 31 [.p (S r648.2.nm), .p (S r648.2.tx), .p (B r648.2.lf), .p (.lst (encM r648.2.ks))]]), fun x k => m_laws_FnMatched_l19 n r648 r651 r655 k x.1 x.2 = some r, ⟨(0, 0), n, h, [], ⟨rfl, rfl, rfl, rfl, rfl, rfl, trivial⟩, ⟨⟨rfl, rfl, rfl, rfl, rfl, trivial⟩, ⟨rfl, rfl, rfl, rfl, rfl, trivial⟩, trivial⟩, rfl⟩, ?_⟩
                  rintro ⟨v278, v279⟩ (_ | k19) h
                  · exact ns h
                  unfold m_laws_FnMatched_l19 at h
                  refine .inl ?_
                  refine .inl ?_
                  refine And.intro (fun c => ?_) (fun c => ?_)
                  · replace h := cT h c
                    refine .inr ⟨Int, fun x => ([(3, .ptr 0 0), (4, .ptr 1 0), (9, .p (B r651.2.1)), (15, .p (.lst (r655.1.map (eL I)))), (16, .p (I x)), (17, .p (I v279))], [.box 31 [.p (S r648.1.nm), .p (S r648.1.tx), .p (B r648.1.lf), .p (.lst (encM r648.1.ks))], .box 31 [.p (S r648.2.nm), .p (S r648.2.tx), .p (B r648.2.lf), .p (.lst (encM r648.2.ks))]]), fun x => m_laws_FnMatched_j21 v279 (m_laws_FnMatched_l19 n r648 r651 r655 k19) x = some r, ?_, ?_⟩
                    · refine .inr ⟨Int × Tree, fun x => ([(3, .ptr 0 0), (4, .ptr 1 0), (9, .p (B r651.2.1)), (15, .p (.lst (r655.1.map (eL I)))), (16, .p (I v278)), (17, .p (I v279)), (18, .ptr 2 0), (19, .p (I x.1))], [.box 31 [.p (S r648.1.nm), .p (S r648.1.tx), .p (B r648.1.lf), .p (.lst (encM r648.1.ks))], .box 31 [.p (S r648.2.nm), .p (S r648.2.tx), .p (B r648.2.lf), .p (.lst (encM r648.2.ks))], .box 31 [.p (S x.2.nm), .p (S x.2.tx), .p (B x.2.lf), .p (.lst (encM x.2.ks))]]), fun x => m_laws_FnMatched_j22 n r648 r655 v278 v279 (m_laws_FnMatched_l19 n r648 r651 r655 k19) x.1 x.2 = some r, ?_, ?_⟩
                      · refine ⟨[0, 1, 2, 3, 4, 5000, 5, 6, 7, 8, 9, 10, 11, 9, 5, 6, 7, 8, 10, 11], [2], by decide +kernel, ?_⟩
                        obtain ⟨x568, hx568, h⟩ := bsm h
                        obtain ⟨r764, hr764, h⟩ := bsm h
                        refine And.intro (ix0 hx568) (Exists.intro _ (And.intro (gm (ixg hx568)) (And.intro rfl ?_)))
                        refine And.intro ?_ ?_
                        · skip
                          refine callA (c_impl_TreeAt n r648.2 x568 _ hr764) ?_
                          exact ⟨(r764.2, r764.1), h, [], ⟨rfl, rfl, rfl, rfl, rfl, rfl, rfl, rfl, trivial⟩, ⟨⟨rfl, rfl, rfl, rfl, rfl, trivial⟩, ⟨rfl, rfl, rfl, rfl, rfl, trivial⟩, ⟨rfl, rfl, rfl, rfl, rfl, trivial⟩, trivial⟩, rfl⟩
                        · skip
                          refine callA (c_impl_TreeAt n r648.2 x568 _ hr764) ?_
                          exact ⟨(r764.2, r764.1), h, [], ⟨rfl, rfl, rfl, rfl, rfl, rfl, rfl, rfl, trivial⟩, ⟨⟨rfl, rfl, rfl, rfl, rfl, trivial⟩, ⟨rfl, rfl, rfl, rfl, rfl, trivial⟩, ⟨rfl, rfl, rfl, rfl, rfl, trivial⟩, trivial⟩, rfl⟩
                      · rintro ⟨v290, v291⟩ h
                        unfold m_laws_FnMatched_j22 at h
                        refine .inl ?_
                        refine .inl ?_
                        refine And.intro (fun c => ?_) (fun c => ?_)
                        · replace h := cT h c
                          refine .inl ?_
                          replace h := Option.some.inj h
                          subst h
                          exact ⟨[.p (B false)], [], ⟨[], ⟨rfl, trivial⟩, trivial, rfl⟩, rfl, rfl, rfl⟩
                        · replace h := cF h c
                          refine .inl ?_
                          obtain ⟨r761, hr761, h⟩ := bsm h
                          refine callA (c_impl_Match n r648.1 v291 _ hr761) ?_
                          refine .inl ?_
                          refine .inl ?_
                          refine And.intro (fun c => ?_) (fun c => ?_)
                          · replace h := cF h c
                            refine And.intro (fun _ => ?_) (fun c => absurd c (by decide))
                            refine And.intro (fun c => absurd c (by decide)) (fun _ => ?_)
                            refine And.intro (fun c => ?_) (fun c => ?_)
                            · replace h := cT h c
                              refine .inl ?_
                              replace h := Option.some.inj h
                              subst h
                              exact ⟨[.p (B false)], [], ⟨[], ⟨rfl, trivial⟩, trivial, rfl⟩, rfl, rfl, rfl⟩
                            · replace h := cF h c
                              refine .inl ?_
                              obtain ⟨x566, hx566, h⟩ := bsm h
                              refine And.intro (ix0 hx566) (Exists.intro _ (And.intro (gm (ixg hx566)) (And.intro rfl ?_)))
                              refine And.intro (fun c => ?_) (fun c => ?_)
                              · replace h := cT h c
                                exact ⟨(wr .i64 (v278 + 1)), h, [], ⟨rfl, rfl, rfl, rfl, rfl, rfl, trivial⟩, ⟨⟨rfl, rfl, rfl, rfl, rfl, trivial⟩, ⟨rfl, rfl, rfl, rfl, rfl, trivial⟩, trivial⟩, rfl⟩
                              · replace h := cF h c
                                exact ⟨v278, h, [], ⟨rfl, rfl, rfl, rfl, rfl, rfl, trivial⟩, ⟨⟨rfl, rfl, rfl, rfl, rfl, trivial⟩, ⟨rfl, rfl, rfl, rfl, rfl, trivial⟩, trivial⟩, rfl⟩
                          · replace h := cT h c
                            refine And.intro (fun c => absurd c (by decide)) (fun _ => ?_)
                            refine And.intro (fun _ => ?_) (fun c => absurd c (by decide))
                            refine And.intro (fun _ => ?_) (fun c => absurd c (by decide))
                            refine .inl ?_
                            replace h := Option.some.inj h
                            subst h
                            exact ⟨[.p (B false)], [], ⟨[], ⟨rfl, trivial⟩, trivial, rfl⟩, rfl, rfl, rfl⟩
                    · rintro v289 h
                      unfold m_laws_FnMatched_j21 at h
                      exact ⟨(v289, (wr .i64 (v279 + 1))), k19, h, Nat.lt_succ_self _, [], ⟨rfl, rfl, rfl, rfl, rfl, rfl, trivial⟩, ⟨⟨rfl, rfl, rfl, rfl, rfl, trivial⟩, ⟨rfl, rfl, rfl, rfl, rfl, trivial⟩, trivial⟩, rfl⟩
                  · replace h := cF h c
                    exact ⟨v278, h, [], ⟨rfl, rfl, trivial⟩, trivial, rfl⟩
                · rintro v272 h
                  unfold m_laws_FnMatched_j12 at h
                  refine .inl ?_
                  replace h := Option.some.inj h
                  subst h
                  exact ⟨[.p (B (xor false (r651.2.1 == (v272 == 1))))], [], ⟨[], ⟨rfl, trivial⟩, trivial, rfl⟩, rfl, rfl, rfl⟩
            · replace h := cT h c
              refine And.intro (fun c => absurd c (by decide)) (fun _ => ?_)
              refine And.intro (fun c => absurd c (by decide)) (fun _ => ?_)
              refine And.intro (fun c => absurd c (by decide)) (fun _ => ?_)
              refine And.intro (fun _ => ?_) (fun c => absurd c (by decide))
              refine And.intro (fun _ => ?_) (fun c => absurd c (by decide))
              refine .inl ?_
              replace h := Option.some.inj h
              subst h
              exact ⟨[.p (B false)], [], ⟨[], ⟨rfl, trivial⟩, trivial, rfl⟩, rfl, rfl, rfl⟩
    · replace h := cT h c
      refine And.intro (fun c => absurd c (by decide)) (fun _ => ?_)
      refine And.intro (fun c => absurd c (by decide)) (fun _ => ?_)
      refine And.intro (fun _ => ?_) (fun c => absurd c (by decide))
      refine And.intro (fun _ => ?_) (fun c => absurd c (by decide))
      refine .inl ?_
      replace h := Option.some.inj h
      subst h
      exact ⟨[.p (B false)], [], ⟨[], ⟨rfl, trivial⟩, trivial, rfl⟩, rfl, rfl, rfl⟩
end Go.Proofs.Ytegpjjnedbbpjaa.Z
