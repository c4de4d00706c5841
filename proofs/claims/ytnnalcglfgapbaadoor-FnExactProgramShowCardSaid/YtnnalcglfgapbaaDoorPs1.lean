/- Printed: models and contracts. -/
import Derived.Test.YtnnalcglfgapbaaDoorGvE
set_option linter.unusedVariables false
set_option linter.unusedSimpArgs false
set_option linter.unnecessarySimpa false
set_option maxRecDepth 100000
set_option maxHeartbeats 8000000
namespace Go.Proofs.YtnnalcglfgapbaaDoor.Z
open Go Go.RowKit Go.Proofs.Sy Go.Proofs
structure gIns where
  op_ : Int
  n_ : Int
  to_ : Int
def gIns.enc (x : gIns) : PV := .agg [I x.op_, I x.n_, I x.to_]
def m_impl_ifs (n : Nat) (a1 : Int) : Option Bool :=
  bif (a1 == 6) then (
    some true)
  else (
    bif (a1 == 7) then (
      some true)
    else (
      some (a1 == 8)))
theorem c_impl_ifs (n : Nat) (a1 : Int) (r : Bool) (h : m_impl_ifs n a1 = some r) : FnP Tryd.prog 40 [I a1] [B r] := by
  unfold m_impl_ifs at h
  refine fn_introJ Tryd.func40 rfl rfl rfl ?_
  refine .inl ?_
  refine .inl ?_
  refine And.intro (fun c => ?_) (fun c => ?_)
  · replace h := cF h c
    refine And.intro (fun _ => ?_) (fun c => absurd c (by decide))
    refine And.intro (fun c => absurd c (by decide)) (fun _ => ?_)
    refine And.intro (fun c => ?_) (fun c => ?_)
    · replace h := cF h c
      refine And.intro (fun _ => ?_) (fun c => absurd c (by decide))
      refine And.intro (fun c => absurd c (by decide)) (fun _ => ?_)
      replace h := Option.some.inj h
      subst h
      exact ⟨[.p (B (a1 == 8))], [], ⟨[], ⟨rfl, trivial⟩, trivial, rfl⟩, rfl, rfl, rfl⟩
    · replace h := cT h c
      refine And.intro (fun c => absurd c (by decide)) (fun _ => ?_)
      refine And.intro (fun _ => ?_) (fun c => absurd c (by decide))
      replace h := Option.some.inj h
      subst h
      exact ⟨[.p (B true)], [], ⟨[], ⟨rfl, trivial⟩, trivial, rfl⟩, rfl, rfl, rfl⟩
  · replace h := cT h c
    refine And.intro (fun c => absurd c (by decide)) (fun _ => ?_)
    refine And.intro (fun _ => ?_) (fun c => absurd c (by decide))
    refine And.intro (fun c => absurd c (by decide)) (fun _ => ?_)
    refine And.intro (fun c => absurd c (by decide)) (fun _ => ?_)
    refine And.intro (fun _ => ?_) (fun c => absurd c (by decide))
    replace h := Option.some.inj h
    subst h
    exact ⟨[.p (B true)], [], ⟨[], ⟨rfl, trivial⟩, trivial, rfl⟩, rfl, rfl, rfl⟩
def m_impl_jumps (n : Nat) (a2 : Int) : Option Bool :=
  bif (a2 == 5) then (
    some true)
  else (
    (m_impl_ifs n a2).bind fun r1 =>
    some r1)
theorem c_impl_jumps (n : Nat) (a2 : Int) (r : Bool) (h : m_impl_jumps n a2 = some r) : FnP Tryd.prog 22 [I a2] [B r] := by
  unfold m_impl_jumps at h
  refine fn_introJ Tryd.func22 rfl rfl rfl ?_
  refine .inl ?_
  refine .inl ?_
  refine And.intro (fun c => ?_) (fun c => ?_)
  · replace h := cF h c
    refine And.intro (fun _ => ?_) (fun c => absurd c (by decide))
    obtain ⟨r1, hr1, h⟩ := bsm h
    refine callA (c_impl_ifs n a2 _ hr1) ?_
    refine And.intro (fun c => absurd c (by decide)) (fun _ => ?_)
    replace h := Option.some.inj h
    subst h
    exact ⟨[.p (B r1)], [], ⟨[], ⟨rfl, trivial⟩, trivial, rfl⟩, rfl, rfl, rfl⟩
  · replace h := cT h c
    refine And.intro (fun c => absurd c (by decide)) (fun _ => ?_)
    refine And.intro (fun _ => ?_) (fun c => absurd c (by decide))
    replace h := Option.some.inj h
    subst h
    exact ⟨[.p (B true)], [], ⟨[], ⟨rfl, trivial⟩, trivial, rfl⟩, rfl, rfl, rfl⟩
def m_impl_insOK_j3 (a3 : gIns) (v2 : Bool) : Option Bool :=
  bif v2 then (
    some (a3.n_ == 0))
  else (
    bif (a3.op_ == 10) then (
      bif (a3.n_ == 2) then (
        some true)
      else (
        some (a3.n_ == 4)))
    else (
      bif (decide (a3.n_ ≥ 0)) then (
        some (decide (a3.n_ ≤ 1000)))
      else (
        some false)))
def m_impl_insOK_j1 (a3 : gIns) : Option Bool :=
  bif (a3.op_ == 4) then (
    m_impl_insOK_j3 a3 true)
  else (
    bif (a3.op_ == 5) then (
      m_impl_insOK_j3 a3 true)
    else (
      bif (a3.op_ == 7) then (
        m_impl_insOK_j3 a3 true)
      else (
        m_impl_insOK_j3 a3 (a3.op_ == 9))))
def m_impl_insOK (n : Nat) (a3 : gIns) (a4 : Int) : Option Bool :=
  bif (decide (a3.op_ < 1)) then (
    some false)
  else (
    bif (decide (a3.op_ > 10)) then (
      some false)
    else (
      (m_impl_jumps n a3.op_).bind fun r3 =>
      bif r3 then (
        bif (decide (a3.to_ < 0)) then (
          some false)
        else (
          bif (decide (a3.to_ ≥ a4)) then (
            some false)
          else (
            m_impl_insOK_j1 a3)))
      else (
        bif (a3.to_ != 0) then (
          some false)
        else (
          m_impl_insOK_j1 a3))))
theorem c_impl_insOK (n : Nat) (a3 : gIns) (a4 : Int) (r : Bool) (h : m_impl_insOK n a3 a4 = some r) : FnP Tryd.prog 37 [a3.enc, I a4] [B r] := by
  unfold m_impl_insOK at h
  refine fn_introJ Tryd.func37 rfl rfl rfl ?_
  refine .inl ?_
  refine .inl ?_
  refine .inl ?_
  refine And.intro (fun c => ?_) (fun c => ?_)
  · replace h := cF h c
    refine And.intro (fun _ => ?_) (fun c => absurd c (by decide))
    refine And.intro (fun _ => ?_) (fun c => absurd c (by decide))
    refine And.intro (fun c => absurd c (by decide)) (fun _ => ?_)
    refine And.intro (fun c => ?_) (fun c => ?_)
    · replace h := cT h c
      refine .inl ?_
      replace h := Option.some.inj h
      subst h
      exact ⟨[.p (B false)], [], ⟨[], ⟨rfl, trivial⟩, trivial, rfl⟩, rfl, rfl, rfl⟩
    · replace h := cF h c
      refine .inr ⟨Unit, fun x => ([(2, .ptr 0 0)], [.box 38 [.p (I a3.op_), .p (I a3.n_), .p (I a3.to_)]]), fun x => m_impl_insOK_j1 a3 = some r, ?_, ?_⟩
      · refine .inl ?_
        obtain ⟨r3, hr3, h⟩ := bsm h
        refine callA (c_impl_jumps n a3.op_ _ hr3) ?_
        refine And.intro (fun c => ?_) (fun c => ?_)
        · replace h := cT h c
          refine .inl ?_
          refine And.intro (fun c => ?_) (fun c => ?_)
          · replace h := cF h c
            refine And.intro (fun _ => ?_) (fun c => absurd c (by decide))
            refine And.intro (fun _ => ?_) (fun c => absurd c (by decide))
            refine And.intro (fun _ => ?_) (fun c => absurd c (by decide))
            refine And.intro (fun c => absurd c (by decide)) (fun _ => ?_)
            refine And.intro (fun c => ?_) (fun c => ?_)
            · replace h := cT h c
              refine .inl ?_
              replace h := Option.some.inj h
              subst h
              exact ⟨[.p (B false)], [], ⟨[], ⟨rfl, trivial⟩, trivial, rfl⟩, rfl, rfl, rfl⟩
            · replace h := cF h c
              exact ⟨(), h, [], ⟨rfl, trivial⟩, ⟨⟨rfl, rfl, rfl, rfl, trivial⟩, trivial⟩, rfl⟩
          · replace h := cT h c
            refine And.intro (fun c => absurd c (by decide)) (fun _ => ?_)
            refine And.intro (fun c => absurd c (by decide)) (fun _ => ?_)
            refine And.intro (fun c => absurd c (by decide)) (fun _ => ?_)
            refine And.intro (fun _ => ?_) (fun c => absurd c (by decide))
            refine And.intro (fun _ => ?_) (fun c => absurd c (by decide))
            refine .inl ?_
            replace h := Option.some.inj h
            subst h
            exact ⟨[.p (B false)], [], ⟨[], ⟨rfl, trivial⟩, trivial, rfl⟩, rfl, rfl, rfl⟩
        · replace h := cF h c
          refine .inl ?_
          refine And.intro (fun c => ?_) (fun c => ?_)
          · replace h := cT h c
            refine .inl ?_
            replace h := Option.some.inj h
            subst h
            exact ⟨[.p (B false)], [], ⟨[], ⟨rfl, trivial⟩, trivial, rfl⟩, rfl, rfl, rfl⟩
          · replace h := cF h c
            exact ⟨(), h, [], ⟨rfl, trivial⟩, ⟨⟨rfl, rfl, rfl, rfl, trivial⟩, trivial⟩, rfl⟩
      · rintro _ h
        unfold m_impl_insOK_j1 at h
        refine .inl ?_
        refine .inl ?_
        refine .inr ⟨Bool, fun x => ([(2, .ptr 0 0), (29, .p (I a3.op_)), (30, .p (B x))], [.box 38 [.p (I a3.op_), .p (I a3.n_), .p (I a3.to_)]]), fun x => m_impl_insOK_j3 a3 x = some r, ?_, ?_⟩
        · refine .inl ?_
          refine And.intro (fun c => ?_) (fun c => ?_)
          · replace h := cT h c
            exact ⟨true, h, [], ⟨rfl, rfl, rfl, trivial⟩, ⟨⟨rfl, rfl, rfl, rfl, trivial⟩, trivial⟩, rfl⟩
          · replace h := cF h c
            refine .inl ?_
            refine And.intro (fun c => ?_) (fun c => ?_)
            · replace h := cT h c
              exact ⟨true, h, [], ⟨rfl, rfl, rfl, trivial⟩, ⟨⟨rfl, rfl, rfl, rfl, trivial⟩, trivial⟩, rfl⟩
            · replace h := cF h c
              refine .inl ?_
              refine And.intro (fun c => ?_) (fun c => ?_)
              · replace h := cT h c
                exact ⟨true, h, [], ⟨rfl, rfl, rfl, trivial⟩, ⟨⟨rfl, rfl, rfl, rfl, trivial⟩, trivial⟩, rfl⟩
              · replace h := cF h c
                exact ⟨(a3.op_ == 9), h, [], ⟨rfl, rfl, rfl, trivial⟩, ⟨⟨rfl, rfl, rfl, rfl, trivial⟩, trivial⟩, rfl⟩
        · rintro v2 h
          unfold m_impl_insOK_j3 at h
          refine And.intro (fun c => ?_) (fun c => ?_)
          · replace h := cT h c
            refine .inl ?_
            replace h := Option.some.inj h
            subst h
            exact ⟨[.p (B (a3.n_ == 0))], [], ⟨[], ⟨rfl, trivial⟩, trivial, rfl⟩, rfl, rfl, rfl⟩
          · replace h := cF h c
            refine .inl ?_
            refine And.intro (fun c => ?_) (fun c => ?_)
            · replace h := cT h c
              refine .inl ?_
              refine And.intro (fun c => ?_) (fun c => ?_)
              · replace h := cF h c
                refine And.intro (fun _ => ?_) (fun c => absurd c (by decide))
                refine And.intro (fun _ => ?_) (fun c => absurd c (by decide))
                refine And.intro (fun c => absurd c (by decide)) (fun _ => ?_)
                replace h := Option.some.inj h
                subst h
                exact ⟨[.p (B (a3.n_ == 4))], [], ⟨[], ⟨rfl, trivial⟩, trivial, rfl⟩, rfl, rfl, rfl⟩
              · replace h := cT h c
                refine And.intro (fun c => absurd c (by decide)) (fun _ => ?_)
                refine And.intro (fun c => absurd c (by decide)) (fun _ => ?_)
                refine And.intro (fun _ => ?_) (fun c => absurd c (by decide))
                replace h := Option.some.inj h
                subst h
                exact ⟨[.p (B true)], [], ⟨[], ⟨rfl, trivial⟩, trivial, rfl⟩, rfl, rfl, rfl⟩
            · replace h := cF h c
              refine .inl ?_
              refine And.intro (fun c => ?_) (fun c => ?_)
              · replace h := cT h c
                refine And.intro (fun _ => ?_) (fun c => absurd c (by decide))
                refine And.intro (fun _ => ?_) (fun c => absurd c (by decide))
                refine And.intro (fun _ => ?_) (fun c => absurd c (by decide))
                replace h := Option.some.inj h
                subst h
                exact ⟨[.p (B (decide (a3.n_ ≤ 1000)))], [], ⟨[], ⟨rfl, trivial⟩, trivial, rfl⟩, rfl, rfl, rfl⟩
              · replace h := cF h c
                refine And.intro (fun c => absurd c (by decide)) (fun _ => ?_)
                refine And.intro (fun c => absurd c (by decide)) (fun _ => ?_)
                refine And.intro (fun c => absurd c (by decide)) (fun _ => ?_)
                replace h := Option.some.inj h
                subst h
                exact ⟨[.p (B false)], [], ⟨[], ⟨rfl, trivial⟩, trivial, rfl⟩, rfl, rfl, rfl⟩
  · replace h := cT h c
    refine And.intro (fun c => absurd c (by decide)) (fun _ => ?_)
    refine And.intro (fun c => absurd c (by decide)) (fun _ => ?_)
    refine And.intro (fun _ => ?_) (fun c => absurd c (by decide))
    refine And.intro (fun _ => ?_) (fun c => absurd c (by decide))
    refine .inl ?_
    replace h := Option.some.inj h
    subst h
    exact ⟨[.p (B false)], [], ⟨[], ⟨rfl, trivial⟩, trivial, rfl⟩, rfl, rfl, rfl⟩
def m_impl_ProgramOK_j2 (a5 : List gIns) : Option Bool :=
  (ix a5 (wr .i64 (((a5.map gIns.enc).length : Int) - 1))).bind fun x4 =>
  bif (x4.op_ == 5) then (
    some true)
  else (
    bif (x4.op_ == 9) then (
      some true)
    else (
      some (x4.op_ == 10)))
def m_impl_ProgramOK_l3 (n : Nat) (a5 : List gIns) : Nat → Int → Option Bool
  | 0, _ => none
  | k3 + 1, v5 =>
    bif (decide (v5 < ((a5.map gIns.enc).length : Int))) then (
      (ix a5 v5).bind fun x7 =>
      (m_impl_insOK n x7 ((a5.map gIns.enc).length : Int)).bind fun r9 =>
      bif (!r9) then (
        some false)
      else (
        (m_impl_ProgramOK_l3 n a5 k3) (wr .i64 (v5 + 1))))
    else (
      m_impl_ProgramOK_j2 a5)
def m_impl_ProgramOK (n : Nat) (a5 : List gIns) : Option Bool :=
  bif (decide (((a5.map gIns.enc).length : Int) < 1)) then (
    some false)
  else (
    bif (decide (((a5.map gIns.enc).length : Int) > 50000)) then (
      some false)
    else (
      m_impl_ProgramOK_l3 n a5 n 0))
theorem c_impl_ProgramOK (n : Nat) (a5 : List gIns) (r : Bool) (h : m_impl_ProgramOK n a5 = some r) : FnP Tryd.prog 17 [.lst (a5.map gIns.enc)] [B r] := by
  unfold m_impl_ProgramOK at h
  refine fn_introJ Tryd.func17 rfl rfl rfl ?_
  refine .inl ?_
  refine .inl ?_
  refine .inl ?_
  refine And.intro (fun c => ?_) (fun c => ?_)
  · replace h := cF h c
    refine And.intro (fun _ => ?_) (fun c => absurd c (by decide))
    refine And.intro (fun _ => ?_) (fun c => absurd c (by decide))
    refine And.intro (fun c => absurd c (by decide)) (fun _ => ?_)
    refine And.intro (fun c => ?_) (fun c => ?_)
    · replace h := cT h c
      refine .inl ?_
      replace h := Option.some.inj h
      subst h
      exact ⟨[.p (B false)], [], ⟨[], ⟨rfl, trivial⟩, trivial, rfl⟩, rfl, rfl, rfl⟩
    · replace h := cF h c
      refine .inr ⟨Unit, fun x => ([(0, .p (.lst (a5.map gIns.enc)))], []), fun x => m_impl_ProgramOK_j2 a5 = some r, ?_, ?_⟩
      · refine .inl ?_
        refine ⟨Int, fun x => ([(0, .p (.lst (a5.map gIns.enc))), (14, .p (.lst (a5.map gIns.enc))), (15, .p (I ((a5.map gIns.enc).length : Int))), (16, .p (I x))], []), fun x k => m_impl_ProgramOK_l3 n a5 k x = some r, ⟨0, n, h, [], ⟨rfl, rfl, rfl, rfl, trivial⟩, trivial, rfl⟩, ?_⟩
        rintro v5 (_ | k3) h
        · exact ns h
        unfold m_impl_ProgramOK_l3 at h
        refine .inl ?_
        refine .inl ?_
        refine And.intro (fun c => ?_) (fun c => ?_)
        · replace h := cT h c
          refine .inl ?_
          refine .inl ?_
          obtain ⟨x7, hx7, h⟩ := bsm h
          refine And.intro (ix0 hx7) (Exists.intro _ (And.intro (gm (ixg hx7)) (And.intro rfl ?_)))
          refine .inl ?_
          obtain ⟨r9, hr9, h⟩ := bsm h
          refine callA (c_impl_insOK n x7 ((a5.map gIns.enc).length : Int) _ hr9) ?_
          refine And.intro (fun c => ?_) (fun c => ?_)
          · replace h := cT h c
            refine .inl ?_
            replace h := Option.some.inj h
            subst h
            exact ⟨[.p (B false)], [], ⟨[], ⟨rfl, trivial⟩, trivial, rfl⟩, rfl, rfl, rfl⟩
          · replace h := cF h c
            exact ⟨(wr .i64 (v5 + 1)), k3, h, Nat.lt_succ_self _, [], ⟨rfl, rfl, rfl, rfl, trivial⟩, trivial, rfl⟩
        · replace h := cF h c
          exact ⟨(), h, [], ⟨rfl, trivial⟩, trivial, rfl⟩
      · rintro _ h
        unfold m_impl_ProgramOK_j2 at h
        refine .inl ?_
        obtain ⟨x4, hx4, h⟩ := bsm h
        refine And.intro (ix0 hx4) (Exists.intro _ (And.intro (gm (ixg hx4)) (And.intro rfl ?_)))
        refine .inl ?_
        refine And.intro (fun c => ?_) (fun c => ?_)
        · replace h := cF h c
          refine And.intro (fun _ => ?_) (fun c => absurd c (by decide))
          refine And.intro (fun c => absurd c (by decide)) (fun _ => ?_)
          refine And.intro (fun c => ?_) (fun c => ?_)
          · replace h := cF h c
            refine And.intro (fun _ => ?_) (fun c => absurd c (by decide))
            refine And.intro (fun c => absurd c (by decide)) (fun _ => ?_)
            replace h := Option.some.inj h
            subst h
            exact ⟨[.p (B (x4.op_ == 10))], [], ⟨[], ⟨rfl, trivial⟩, trivial, rfl⟩, rfl, rfl, rfl⟩
          · replace h := cT h c
            refine And.intro (fun c => absurd c (by decide)) (fun _ => ?_)
            refine And.intro (fun _ => ?_) (fun c => absurd c (by decide))
            replace h := Option.some.inj h
            subst h
            exact ⟨[.p (B true)], [], ⟨[], ⟨rfl, trivial⟩, trivial, rfl⟩, rfl, rfl, rfl⟩
        · replace h := cT h c
          refine And.intro (fun c => absurd c (by decide)) (fun _ => ?_)
          refine And.intro (fun _ => ?_) (fun c => absurd c (by decide))
          refine And.intro (fun c => absurd c (by decide)) (fun _ => ?_)
          refine And.intro (fun c => absurd c (by decide)) (fun _ => ?_)
          refine And.intro (fun _ => ?_) (fun c => absurd c (by decide))
          replace h := Option.some.inj h
          subst h
          exact ⟨[.p (B true)], [], ⟨[], ⟨rfl, trivial⟩, trivial, rfl⟩, rfl, rfl, rfl⟩
  · replace h := cT h c
    refine And.intro (fun c => absurd c (by decide)) (fun _ => ?_)
    refine And.intro (fun c => absurd c (by decide)) (fun _ => ?_)
    refine And.intro (fun _ => ?_) (fun c => absurd c (by decide))
    refine And.intro (fun _ => ?_) (fun c => absurd c (by decide))
    refine .inl ?_
    replace h := Option.some.inj h
    subst h
    exact ⟨[.p (B false)], [], ⟨[], ⟨rfl, trivial⟩, trivial, rfl⟩, rfl, rfl, rfl⟩
def m_impl_hasN (n : Nat) (a6 : Int) : Option Bool :=
  bif (decide (a6 ≤ 3)) then (
    some true)
  else (
    bif (a6 == 6) then (
      some true)
    else (
      bif (a6 == 8) then (
        some true)
      else (
        some (a6 == 10))))
theorem c_impl_hasN (n : Nat) (a6 : Int) (r : Bool) (h : m_impl_hasN n a6 = some r) : FnP Tryd.prog 20 [I a6] [B r] := by
  unfold m_impl_hasN at h
  refine fn_introJ Tryd.func20 rfl rfl rfl ?_
  refine .inl ?_
  refine .inl ?_
  refine And.intro (fun c => ?_) (fun c => ?_)
  · replace h := cF h c
    refine And.intro (fun _ => ?_) (fun c => absurd c (by decide))
    refine And.intro (fun c => absurd c (by decide)) (fun _ => ?_)
    refine And.intro (fun c => ?_) (fun c => ?_)
    · replace h := cF h c
      refine And.intro (fun _ => ?_) (fun c => absurd c (by decide))
      refine And.intro (fun c => absurd c (by decide)) (fun _ => ?_)
      refine And.intro (fun c => ?_) (fun c => ?_)
      · replace h := cF h c
        refine And.intro (fun _ => ?_) (fun c => absurd c (by decide))
        refine And.intro (fun c => absurd c (by decide)) (fun _ => ?_)
        replace h := Option.some.inj h
        subst h
        exact ⟨[.p (B (a6 == 10))], [], ⟨[], ⟨rfl, trivial⟩, trivial, rfl⟩, rfl, rfl, rfl⟩
      · replace h := cT h c
        refine And.intro (fun c => absurd c (by decide)) (fun _ => ?_)
        refine And.intro (fun _ => ?_) (fun c => absurd c (by decide))
        replace h := Option.some.inj h
        subst h
        exact ⟨[.p (B true)], [], ⟨[], ⟨rfl, trivial⟩, trivial, rfl⟩, rfl, rfl, rfl⟩
    · replace h := cT h c
      refine And.intro (fun c => absurd c (by decide)) (fun _ => ?_)
      refine And.intro (fun _ => ?_) (fun c => absurd c (by decide))
      refine And.intro (fun c => absurd c (by decide)) (fun _ => ?_)
      refine And.intro (fun c => absurd c (by decide)) (fun _ => ?_)
      refine And.intro (fun _ => ?_) (fun c => absurd c (by decide))
      replace h := Option.some.inj h
      subst h
      exact ⟨[.p (B true)], [], ⟨[], ⟨rfl, trivial⟩, trivial, rfl⟩, rfl, rfl, rfl⟩
  · replace h := cT h c
    refine And.intro (fun c => absurd c (by decide)) (fun _ => ?_)
    refine And.intro (fun _ => ?_) (fun c => absurd c (by decide))
    refine And.intro (fun c => absurd c (by decide)) (fun _ => ?_)
    refine And.intro (fun c => absurd c (by decide)) (fun _ => ?_)
    refine And.intro (fun _ => ?_) (fun c => absurd c (by decide))
    refine And.intro (fun c => absurd c (by decide)) (fun _ => ?_)
    refine And.intro (fun c => absurd c (by decide)) (fun _ => ?_)
    refine And.intro (fun _ => ?_) (fun c => absurd c (by decide))
    replace h := Option.some.inj h
    subst h
    exact ⟨[.p (B true)], [], ⟨[], ⟨rfl, trivial⟩, trivial, rfl⟩, rfl, rfl, rfl⟩
def m_impl_insWords (n : Nat) : Option (List ByteArray) :=
  some ([⟨#[]⟩, ⟨#[112, 117, 115, 104]⟩, ⟨#[100, 114, 111, 112]⟩, ⟨#[116, 101, 108, 108]⟩, ⟨#[112, 97, 115, 115]⟩, ⟨#[106, 117, 109, 112]⟩, ⟨#[105, 102, 110, 101, 120, 116]⟩, ⟨#[105, 102, 101, 110, 100]⟩, ⟨#[105, 102, 116, 111, 112]⟩, ⟨#[100, 111, 110, 101]⟩, ⟨#[102, 97, 105, 108]⟩] : List ByteArray)
theorem c_impl_insWords (n : Nat) (r : List ByteArray) (h : m_impl_insWords n = some r) : FnP Tryd.prog 19 [] [.lst (r.map S)] := by
  unfold m_impl_insWords at h
  refine fn_introJ Tryd.func19 rfl rfl rfl ?_
  refine .inl ?_
  refine .inl ?_
  refine And.intro (show fits _ _ from ⟨⟨rfl, rfl⟩, ⟨⟨rfl, rfl⟩, ⟨⟨rfl, rfl⟩, ⟨⟨rfl, rfl⟩, ⟨⟨rfl, rfl⟩, ⟨⟨rfl, rfl⟩, ⟨⟨rfl, rfl⟩, ⟨⟨rfl, rfl⟩, ⟨⟨rfl, rfl⟩, ⟨⟨rfl, rfl⟩, ⟨⟨rfl, rfl⟩, trivial⟩⟩⟩⟩⟩⟩⟩⟩⟩⟩⟩) ?_
  refine .inl (Exists.intro _ (And.intro (rowN (show [S ⟨#[]⟩, S ⟨#[112, 117, 115, 104]⟩, S ⟨#[100, 114, 111, 112]⟩, S ⟨#[116, 101, 108, 108]⟩, S ⟨#[112, 97, 115, 115]⟩, S ⟨#[106, 117, 109, 112]⟩, S ⟨#[105, 102, 110, 101, 120, 116]⟩, S ⟨#[105, 102, 101, 110, 100]⟩, S ⟨#[105, 102, 116, 111, 112]⟩, S ⟨#[100, 111, 110, 101]⟩, S ⟨#[102, 97, 105, 108]⟩] = ([⟨#[]⟩, ⟨#[112, 117, 115, 104]⟩, ⟨#[100, 114, 111, 112]⟩, ⟨#[116, 101, 108, 108]⟩, ⟨#[112, 97, 115, 115]⟩, ⟨#[106, 117, 109, 112]⟩, ⟨#[105, 102, 110, 101, 120, 116]⟩, ⟨#[105, 102, 101, 110, 100]⟩, ⟨#[105, 102, 116, 111, 112]⟩, ⟨#[100, 111, 110, 101]⟩, ⟨#[102, 97, 105, 108]⟩] : List ByteArray).map S by simp) (show 11 = (([⟨#[]⟩, ⟨#[112, 117, 115, 104]⟩, ⟨#[100, 114, 111, 112]⟩, ⟨#[116, 101, 108, 108]⟩, ⟨#[112, 97, 115, 115]⟩, ⟨#[106, 117, 109, 112]⟩, ⟨#[105, 102, 110, 101, 120, 116]⟩, ⟨#[105, 102, 101, 110, 100]⟩, ⟨#[105, 102, 116, 111, 112]⟩, ⟨#[100, 111, 110, 101]⟩, ⟨#[102, 97, 105, 108]⟩] : List ByteArray).map S).length by simp)) ?_))
  replace h := Option.some.inj h
  subst h
  exact ⟨[.p (.lst (([⟨#[]⟩, ⟨#[112, 117, 115, 104]⟩, ⟨#[100, 114, 111, 112]⟩, ⟨#[116, 101, 108, 108]⟩, ⟨#[112, 97, 115, 115]⟩, ⟨#[106, 117, 109, 112]⟩, ⟨#[105, 102, 110, 101, 120, 116]⟩, ⟨#[105, 102, 101, 110, 100]⟩, ⟨#[105, 102, 116, 111, 112]⟩, ⟨#[100, 111, 110, 101]⟩, ⟨#[102, 97, 105, 108]⟩] : List ByteArray).map S))], [], ⟨[], ⟨rfl, trivial⟩, trivial, rfl⟩, rfl, rfl, rfl⟩
def m_impl_itoa (n : Nat) (a7 : Int) : Option ByteArray :=
  (m_strconv_Itoa n a7).bind fun r10 =>
  some r10
theorem c_impl_itoa (n : Nat) (a7 : Int) (r : ByteArray) (h : m_impl_itoa n a7 = some r) : FnP Tryd.prog 21 [I a7] [S r] := by
  unfold m_impl_itoa at h
  refine fn_introJ Tryd.func21 rfl rfl rfl ?_
  refine .inl ?_
  refine .inl ?_
  obtain ⟨r10, hr10, h⟩ := bsm h
  refine callA (c_strconv_Itoa n a7 _ hr10) ?_
  replace h := Option.some.inj h
  subst h
  exact ⟨[.p (S r10)], [], ⟨[], ⟨rfl, trivial⟩, trivial, rfl⟩, rfl, rfl, rfl⟩
end Go.Proofs.YtnnalcglfgapbaaDoor.Z
