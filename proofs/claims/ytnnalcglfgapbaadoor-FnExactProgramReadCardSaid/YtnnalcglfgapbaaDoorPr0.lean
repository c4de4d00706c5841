/- Printed: models and contracts. -/
import Derived.Test.YtnnalcglfgapbaaDoorGvH
set_option linter.unusedVariables false
set_option linter.unusedSimpArgs false
set_option linter.unnecessarySimpa false
set_option maxRecDepth 100000
set_option maxHeartbeats 8000000
namespace Go.Proofs.YtnnalcglfgapbaaDoor.Z
open Go Go.RowKit Go.Proofs.Sy Go.Proofs
structure gIns where
  op_ : Int
  n_ : Int
  to_ : Int
def gIns.enc (x : gIns) : PV := .agg [I x.op_, I x.n_, I x.to_]
def m_laws_eqIns (n : Nat) (a1 : gIns) (a2 : gIns) : Option Bool :=
  bif (a1.op_ != a2.op_) then (
    some false)
  else (
    bif (a1.n_ != a2.n_) then (
      some false)
    else (
      bif (a1.to_ != a2.to_) then (
        some false)
      else (
        some true)))
theorem c_laws_eqIns (n : Nat) (a1 : gIns) (a2 : gIns) (r : Bool) (h : m_laws_eqIns n a1 a2 = some r) : FnP Tryd.prog 26 [a1.enc, a2.enc] [B r] := by
  unfold m_laws_eqIns at h
  refine fn_introJ Tryd.func26 rfl rfl rfl ?_
  refine .inl ?_
  refine .inl ?_
  refine .inl ?_
  refine And.intro (fun c => ?_) (fun c => ?_)
  · replace h := cT h c
    refine .inl ?_
    replace h := Option.some.inj h
    subst h
    exact ⟨[.p (B false)], [], ⟨[], ⟨rfl, trivial⟩, trivial, rfl⟩, rfl, rfl, rfl⟩
  · replace h := cF h c
    refine .inl ?_
    refine .inl ?_
    refine And.intro (fun c => ?_) (fun c => ?_)
    · replace h := cT h c
      refine .inl ?_
      replace h := Option.some.inj h
      subst h
      exact ⟨[.p (B false)], [], ⟨[], ⟨rfl, trivial⟩, trivial, rfl⟩, rfl, rfl, rfl⟩
    · replace h := cF h c
      refine .inl ?_
      refine .inl ?_
      refine And.intro (fun c => ?_) (fun c => ?_)
      · replace h := cT h c
        refine .inl ?_
        replace h := Option.some.inj h
        subst h
        exact ⟨[.p (B false)], [], ⟨[], ⟨rfl, trivial⟩, trivial, rfl⟩, rfl, rfl, rfl⟩
      · replace h := cF h c
        refine .inl ?_
        replace h := Option.some.inj h
        subst h
        exact ⟨[.p (B true)], [], ⟨[], ⟨rfl, trivial⟩, trivial, rfl⟩, rfl, rfl, rfl⟩
def m_laws_eqInsS_j2 : Option Bool :=
  some true
def m_laws_eqInsS_l3 (n : Nat) (a3 : List gIns) (a4 : List gIns) : Nat → Int → Option Bool
  | 0, _ => none
  | k3 + 1, v3 =>
    bif (decide (v3 < ((a3.map gIns.enc).length : Int))) then (
      (ix a3 v3).bind fun x23 =>
      (ix a4 v3).bind fun x24 =>
      (m_laws_eqIns n x23 x24).bind fun r12 =>
      bif (!r12) then (
        some false)
      else (
        (m_laws_eqInsS_l3 n a3 a4 k3) (wr .i64 (v3 + 1))))
    else (
      m_laws_eqInsS_j2)
def m_laws_eqInsS (n : Nat) (a3 : List gIns) (a4 : List gIns) : Option Bool :=
  bif (((a3.map gIns.enc).length : Int) != ((a4.map gIns.enc).length : Int)) then (
    some false)
  else (
    m_laws_eqInsS_l3 n a3 a4 n 0)
theorem c_laws_eqInsS (n : Nat) (a3 : List gIns) (a4 : List gIns) (r : Bool) (h : m_laws_eqInsS n a3 a4 = some r) : FnP Tryd.prog 9 [.lst (a3.map gIns.enc), .lst (a4.map gIns.enc)] [B r] := by
  unfold m_laws_eqInsS at h
  refine fn_introJ Tryd.func9 rfl rfl rfl ?_
  refine .inl ?_
  refine .inl ?_
  refine .inl ?_
  refine And.intro (fun c => ?_) (fun c => ?_)
  · replace h := cT h c
    refine .inl ?_
    replace h := Option.some.inj h
    subst h
    exact ⟨[.p (B false)], [], ⟨[], ⟨rfl, trivial⟩, trivial, rfl⟩, rfl, rfl, rfl⟩
  · replace h := cF h c
    refine .inr ⟨Unit, fun x => ([], []), fun x => m_laws_eqInsS_j2 = some r, ?_, ?_⟩
    · refine .inl ?_
      refine ⟨Int, fun x => ([(0, .p (.lst (a3.map gIns.enc))), (1, .p (.lst (a4.map gIns.enc))), (5, .p (I x))], []), fun x k => m_laws_eqInsS_l3 n a3 a4 k x = some r, ⟨0, n, h, [], ⟨rfl, rfl, rfl, trivial⟩, trivial, rfl⟩, ?_⟩
      rintro v3 (_ | k3) h
      · exact ns h
      unfold m_laws_eqInsS_l3 at h
      refine .inl ?_
      refine .inl ?_
      refine And.intro (fun c => ?_) (fun c => ?_)
      · replace h := cT h c
        refine .inl ?_
        refine .inl ?_
        refine ⟨[0, 1, 2, 2003, 4, 5, 6, 2007, 1008, 9], [], by decide +kernel, ?_⟩
        obtain ⟨x23, hx23, h⟩ := bsm h
        refine And.intro (ix0 hx23) (Exists.intro _ (And.intro (gm (ixg hx23)) (And.intro rfl ?_)))
        obtain ⟨x24, hx24, h⟩ := bsm h
        refine And.intro (ix0 hx24) (Exists.intro _ (And.intro (gm (ixg hx24)) (And.intro rfl ?_)))
        obtain ⟨r12, hr12, h⟩ := bsm h
        refine callA (c_laws_eqIns n x23 x24 _ hr12) ?_
        refine And.intro (fun c => ?_) (fun c => ?_)
        · replace h := cT h c
          refine .inl ?_
          replace h := Option.some.inj h
          subst h
          exact ⟨[.p (B false)], [], ⟨[], ⟨rfl, trivial⟩, trivial, rfl⟩, rfl, rfl, rfl⟩
        · replace h := cF h c
          exact ⟨(wr .i64 (v3 + 1)), k3, h, Nat.lt_succ_self _, [], ⟨rfl, rfl, rfl, trivial⟩, trivial, rfl⟩
      · replace h := cF h c
        exact ⟨(), h, [], trivial, trivial, rfl⟩
    · rintro _ h
      unfold m_laws_eqInsS_j2 at h
      refine .inl ?_
      replace h := Option.some.inj h
      subst h
      exact ⟨[.p (B true)], [], ⟨[], ⟨rfl, trivial⟩, trivial, rfl⟩, rfl, rfl, rfl⟩
def m_spec_l01Between (n : Nat) (a5 : Int) (a6 : Int) (a7 : Int) : Option Bool :=
  bif (decide (a5 ≥ a6)) then (
    some (decide (a5 ≤ a7)))
  else (
    some false)
theorem c_spec_l01Between (n : Nat) (a5 : Int) (a6 : Int) (a7 : Int) (r : Bool) (h : m_spec_l01Between n a5 a6 a7 = some r) : FnP Tryd.prog 31 [I a5, I a6, I a7] [B r] := by
  unfold m_spec_l01Between at h
  refine fn_introJ Tryd.func31 rfl rfl rfl ?_
  refine .inl ?_
  refine .inl ?_
  refine And.intro (fun c => ?_) (fun c => ?_)
  · replace h := cT h c
    refine And.intro (fun _ => ?_) (fun c => absurd c (by decide))
    refine And.intro (fun _ => ?_) (fun c => absurd c (by decide))
    refine And.intro (fun _ => ?_) (fun c => absurd c (by decide))
    replace h := Option.some.inj h
    subst h
    exact ⟨[.p (B (decide (a5 ≤ a7)))], [], ⟨[], ⟨rfl, trivial⟩, trivial, rfl⟩, rfl, rfl, rfl⟩
  · replace h := cF h c
    refine And.intro (fun c => absurd c (by decide)) (fun _ => ?_)
    refine And.intro (fun c => absurd c (by decide)) (fun _ => ?_)
    refine And.intro (fun c => absurd c (by decide)) (fun _ => ?_)
    replace h := Option.some.inj h
    subst h
    exact ⟨[.p (B false)], [], ⟨[], ⟨rfl, trivial⟩, trivial, rfl⟩, rfl, rfl, rfl⟩
def m_spec_l17HasTo (n : Nat) (a8 : Int) : Option Bool :=
  (m_spec_l01Between n a8 5 8).bind fun r13 =>
  some r13
theorem c_spec_l17HasTo (n : Nat) (a8 : Int) (r : Bool) (h : m_spec_l17HasTo n a8 = some r) : FnP Tryd.prog 32 [I a8] [B r] := by
  unfold m_spec_l17HasTo at h
  refine fn_introJ Tryd.func32 rfl rfl rfl ?_
  refine .inl ?_
  refine .inl ?_
  obtain ⟨r13, hr13, h⟩ := bsm h
  refine callA (c_spec_l01Between n a8 5 8 _ hr13) ?_
  replace h := Option.some.inj h
  subst h
  exact ⟨[.p (B r13)], [], ⟨[], ⟨rfl, trivial⟩, trivial, rfl⟩, rfl, rfl, rfl⟩
def m_spec_l17HasN (n : Nat) (a9 : Int) : Option Bool :=
  (m_spec_l01Between n a9 1 3).bind fun r14 =>
  bif r14 then (
    some true)
  else (
    bif (a9 == 6) then (
      some true)
    else (
      some (a9 == 8)))
theorem c_spec_l17HasN (n : Nat) (a9 : Int) (r : Bool) (h : m_spec_l17HasN n a9 = some r) : FnP Tryd.prog 33 [I a9] [B r] := by
  unfold m_spec_l17HasN at h
  refine fn_introJ Tryd.func33 rfl rfl rfl ?_
  refine .inl ?_
  refine .inl ?_
  obtain ⟨r14, hr14, h⟩ := bsm h
  refine callA (c_spec_l01Between n a9 1 3 _ hr14) ?_
  refine And.intro (fun c => ?_) (fun c => ?_)
  · replace h := cF h c
    refine And.intro (fun _ => ?_) (fun c => absurd c (by decide))
    refine And.intro (fun c => absurd c (by decide)) (fun _ => ?_)
    refine And.intro (fun c => ?_) (fun c => ?_)
    · replace h := cF h c
      refine And.intro (fun _ => ?_) (fun c => absurd c (by decide))
      refine And.intro (fun c => absurd c (by decide)) (fun _ => ?_)
      replace h := Option.some.inj h
      subst h
      exact ⟨[.p (B (a9 == 8))], [], ⟨[], ⟨rfl, trivial⟩, trivial, rfl⟩, rfl, rfl, rfl⟩
    · replace h := cT h c
      refine And.intro (fun c => absurd c (by decide)) (fun _ => ?_)
      refine And.intro (fun _ => ?_) (fun c => absurd c (by decide))
      replace h := Option.some.inj h
      subst h
      exact ⟨[.p (B true)], [], ⟨[], ⟨rfl, trivial⟩, trivial, rfl⟩, rfl, rfl, rfl⟩
  · replace h := cT h c
    refine And.intro (fun c => absurd c (by decide)) (fun _ => ?_)
    refine And.intro (fun _ => ?_) (fun c => absurd c (by decide))
    refine And.intro (fun c => absurd c (by decide)) (fun _ => ?_)
    refine And.intro (fun c => absurd c (by decide)) (fun _ => ?_)
    refine And.intro (fun _ => ?_) (fun c => absurd c (by decide))
    replace h := Option.some.inj h
    subst h
    exact ⟨[.p (B true)], [], ⟨[], ⟨rfl, trivial⟩, trivial, rfl⟩, rfl, rfl, rfl⟩
def m_spec_l17Goes (n : Nat) (a10 : Int) : Option Bool :=
  bif (a10 != 5) then (
    bif (a10 != 9) then (
      some (a10 != 10))
    else (
      some false))
  else (
    some false)
theorem c_spec_l17Goes (n : Nat) (a10 : Int) (r : Bool) (h : m_spec_l17Goes n a10 = some r) : FnP Tryd.prog 34 [I a10] [B r] := by
  unfold m_spec_l17Goes at h
  refine fn_introJ Tryd.func34 rfl rfl rfl ?_
  refine .inl ?_
  refine .inl ?_
  refine And.intro (fun c => ?_) (fun c => ?_)
  · replace h := cT h c
    refine And.intro (fun _ => ?_) (fun c => absurd c (by decide))
    refine And.intro (fun _ => ?_) (fun c => absurd c (by decide))
    refine And.intro (fun c => ?_) (fun c => ?_)
    · replace h := cT h c
      refine And.intro (fun _ => ?_) (fun c => absurd c (by decide))
      refine And.intro (fun _ => ?_) (fun c => absurd c (by decide))
      replace h := Option.some.inj h
      subst h
      exact ⟨[.p (B (a10 != 10))], [], ⟨[], ⟨rfl, trivial⟩, trivial, rfl⟩, rfl, rfl, rfl⟩
    · replace h := cF h c
      refine And.intro (fun c => absurd c (by decide)) (fun _ => ?_)
      refine And.intro (fun c => absurd c (by decide)) (fun _ => ?_)
      replace h := Option.some.inj h
      subst h
      exact ⟨[.p (B false)], [], ⟨[], ⟨rfl, trivial⟩, trivial, rfl⟩, rfl, rfl, rfl⟩
  · replace h := cF h c
    refine And.intro (fun c => absurd c (by decide)) (fun _ => ?_)
    refine And.intro (fun c => absurd c (by decide)) (fun _ => ?_)
    refine And.intro (fun c => absurd c (by decide)) (fun _ => ?_)
    refine And.intro (fun c => absurd c (by decide)) (fun _ => ?_)
    refine And.intro (fun c => absurd c (by decide)) (fun _ => ?_)
    replace h := Option.some.inj h
    subst h
    exact ⟨[.p (B false)], [], ⟨[], ⟨rfl, trivial⟩, trivial, rfl⟩, rfl, rfl, rfl⟩
def m_spec_ProgramOK_j11 (n : Nat) (a11 : List gIns) : Option Bool :=
  (ix a11 (wr .i64 (((a11.map gIns.enc).length : Int) - 1))).bind fun x31 =>
  (m_spec_l17Goes n x31.op_).bind fun r64 =>
  some (!r64)
def m_spec_ProgramOK_j20 (v15 : Int) (rec18 : Int → Option Bool) : Option Bool :=
  rec18 (wr .i64 (v15 + 1))
def m_spec_ProgramOK_j21 (n : Nat) (v15 : Int) (rec18 : Int → Option Bool) (x37 : gIns) (v20 : Int) : Option Bool :=
  (m_spec_l01Between n x37.op_ 1 10).bind fun r108 =>
  bif (!r108) then (
    some false)
  else (
    (m_spec_l01Between n x37.to_ 0 v20).bind fun r109 =>
    bif (!r109) then (
      some false)
    else (
      bif (x37.op_ == 10) then (
        bif (x37.n_ != 2) then (
          bif (x37.n_ != 4) then (
            some false)
          else (
            m_spec_ProgramOK_j20 v15 rec18))
        else (
          m_spec_ProgramOK_j20 v15 rec18))
      else (
        (m_spec_l17HasN n x37.op_).bind fun r110 =>
        bif r110 then (
          (m_spec_l01Between n x37.n_ 0 1000).bind fun r111 =>
          bif (!r111) then (
            some false)
          else (
            m_spec_ProgramOK_j20 v15 rec18))
        else (
          bif (x37.n_ != 0) then (
            some false)
          else (
            m_spec_ProgramOK_j20 v15 rec18)))))
def m_spec_ProgramOK_l18 (n : Nat) (a11 : List gIns) : Nat → Int → Option Bool
  | 0, _ => none
  | k18 + 1, v15 =>
    bif (decide (v15 < ((a11.map gIns.enc).length : Int))) then (
      (ix a11 v15).bind fun x37 =>
      (m_spec_l17HasTo n x37.op_).bind fun r112 =>
      bif r112 then (
        m_spec_ProgramOK_j21 n v15 (m_spec_ProgramOK_l18 n a11 k18) x37 (wr .i64 (((a11.map gIns.enc).length : Int) - 1)))
      else (
        m_spec_ProgramOK_j21 n v15 (m_spec_ProgramOK_l18 n a11 k18) x37 0))
    else (
      m_spec_ProgramOK_j11 n a11)
def m_spec_ProgramOK (n : Nat) (a11 : List gIns) : Option Bool :=
  (m_spec_l01Between n ((a11.map gIns.enc).length : Int) 1 50000).bind fun r15 =>
  bif (!r15) then (
    some false)
  else (
    m_spec_ProgramOK_l18 n a11 n 0)
theorem c_spec_ProgramOK (n : Nat) (a11 : List gIns) (r : Bool) (h : m_spec_ProgramOK n a11 = some r) : FnP Tryd.prog 14 [.lst (a11.map gIns.enc)] [B r] := by
  unfold m_spec_ProgramOK at h
  refine fn_introJ Tryd.func14 rfl rfl rfl ?_
  refine .inl ?_
  refine .inl ?_
  refine .inl ?_
  obtain ⟨r15, hr15, h⟩ := bsm h
  refine callA (c_spec_l01Between n ((a11.map gIns.enc).length : Int) 1 50000 _ hr15) ?_
  refine And.intro (fun c => ?_) (fun c => ?_)
  · replace h := cT h c
    refine .inl ?_
    replace h := Option.some.inj h
    subst h
    exact ⟨[.p (B false)], [], ⟨[], ⟨rfl, trivial⟩, trivial, rfl⟩, rfl, rfl, rfl⟩
  · replace h := cF h c
    refine .inr ⟨Unit, fun x => ([(0, .p (.lst (a11.map gIns.enc)))], []), fun x => m_spec_ProgramOK_j11 n a11 = some r, ?_, ?_⟩
    · refine .inl ?_
      refine ⟨Int, fun x => ([(0, .p (.lst (a11.map gIns.enc))), (3, .p (I x))], []), fun x k => m_spec_ProgramOK_l18 n a11 k x = some r, ⟨0, n, h, [], ⟨rfl, rfl, trivial⟩, trivial, rfl⟩, ?_⟩
      rintro v15 (_ | k18) h
      · exact ns h
      unfold m_spec_ProgramOK_l18 at h
      refine .inl ?_
      refine .inl ?_
      refine And.intro (fun c => ?_) (fun c => ?_)
      · replace h := cT h c
        refine .inr ⟨Unit, fun x => ([(0, .p (.lst (a11.map gIns.enc))), (3, .p (I v15))], []), fun x => m_spec_ProgramOK_j20 v15 (m_spec_ProgramOK_l18 n a11 k18) = some r, ?_, ?_⟩
        · refine .inl ?_
          obtain ⟨x37, hx37, h⟩ := bsm h
          refine And.intro (ix0 hx37) (Exists.intro _ (And.intro (gm (ixg hx37)) (And.intro rfl ?_)))
          refine .inl ?_
          refine .inr ⟨Int, fun x => ([(0, .p (.lst (a11.map gIns.enc))), (3, .p (I v15)), (4, .ptr 0 0), (5, .p (I x))], [.box 38 [.p (I x37.op_), .p (I x37.n_), .p (I x37.to_)]]), fun x => m_spec_ProgramOK_j21 n v15 (m_spec_ProgramOK_l18 n a11 k18) x37 x = some r, ?_, ?_⟩
          · refine .inl ?_
            obtain ⟨r112, hr112, h⟩ := bsm h
            refine callA (c_spec_l17HasTo n x37.op_ _ hr112) ?_
            refine And.intro (fun c => ?_) (fun c => ?_)
            · replace h := cT h c
              exact ⟨(wr .i64 (((a11.map gIns.enc).length : Int) - 1)), h, [], ⟨rfl, rfl, rfl, rfl, trivial⟩, ⟨⟨rfl, rfl, rfl, rfl, trivial⟩, trivial⟩, rfl⟩
            · replace h := cF h c
              exact ⟨0, h, [], ⟨rfl, rfl, rfl, rfl, trivial⟩, ⟨⟨rfl, rfl, rfl, rfl, trivial⟩, trivial⟩, rfl⟩
          · rintro v20 h
            unfold m_spec_ProgramOK_j21 at h
            refine .inl ?_
            refine .inl ?_
            obtain ⟨r108, hr108, h⟩ := bsm h
            refine callA (c_spec_l01Between n x37.op_ 1 10 _ hr108) ?_
            refine And.intro (fun c => ?_) (fun c => ?_)
            · replace h := cF h c
              refine And.intro (fun _ => ?_) (fun c => absurd c (by decide))
              refine And.intro (fun _ => ?_) (fun c => absurd c (by decide))
              refine And.intro (fun _ => ?_) (fun c => absurd c (by decide))
              obtain ⟨r109, hr109, h⟩ := bsm h
              refine callA (c_spec_l01Between n x37.to_ 0 v20 _ hr109) ?_
              refine And.intro (fun _ => ?_) (fun c => absurd c (by decide))
              refine And.intro (fun c => absurd c (by decide)) (fun _ => ?_)
              refine And.intro (fun c => ?_) (fun c => ?_)
              · replace h := cT h c
                refine .inl ?_
                replace h := Option.some.inj h
                subst h
                exact ⟨[.p (B false)], [], ⟨[], ⟨rfl, trivial⟩, trivial, rfl⟩, rfl, rfl, rfl⟩
              · replace h := cF h c
                refine .inl ?_
                refine And.intro (fun c => ?_) (fun c => ?_)
                · replace h := cT h c
                  refine .inl ?_
                  refine And.intro (fun c => ?_) (fun c => ?_)
                  · replace h := cT h c
                    refine And.intro (fun _ => ?_) (fun c => absurd c (by decide))
                    refine And.intro (fun _ => ?_) (fun c => absurd c (by decide))
                    refine And.intro (fun _ => ?_) (fun c => absurd c (by decide))
                    refine And.intro (fun c => ?_) (fun c => ?_)
                    · replace h := cT h c
                      refine .inl ?_
                      replace h := Option.some.inj h
                      subst h
                      exact ⟨[.p (B false)], [], ⟨[], ⟨rfl, trivial⟩, trivial, rfl⟩, rfl, rfl, rfl⟩
                    · replace h := cF h c
                      exact ⟨(), h, [], ⟨rfl, rfl, trivial⟩, trivial, rfl⟩
                  · replace h := cF h c
                    refine And.intro (fun c => absurd c (by decide)) (fun _ => ?_)
                    refine And.intro (fun c => absurd c (by decide)) (fun _ => ?_)
                    refine And.intro (fun c => absurd c (by decide)) (fun _ => ?_)
                    refine And.intro (fun c => absurd c (by decide)) (fun _ => ?_)
                    exact ⟨(), h, [], ⟨rfl, rfl, trivial⟩, trivial, rfl⟩
                · replace h := cF h c
                  refine .inl ?_
                  obtain ⟨r110, hr110, h⟩ := bsm h
                  refine callA (c_spec_l17HasN n x37.op_ _ hr110) ?_
                  refine And.intro (fun c => ?_) (fun c => ?_)
                  · replace h := cT h c
                    refine .inl ?_
                    obtain ⟨r111, hr111, h⟩ := bsm h
                    refine callA (c_spec_l01Between n x37.n_ 0 1000 _ hr111) ?_
                    refine And.intro (fun c => ?_) (fun c => ?_)
                    · replace h := cT h c
                      refine .inl ?_
                      replace h := Option.some.inj h
                      subst h
                      exact ⟨[.p (B false)], [], ⟨[], ⟨rfl, trivial⟩, trivial, rfl⟩, rfl, rfl, rfl⟩
                    · replace h := cF h c
                      exact ⟨(), h, [], ⟨rfl, rfl, trivial⟩, trivial, rfl⟩
                  · replace h := cF h c
                    refine .inl ?_
                    refine And.intro (fun c => ?_) (fun c => ?_)
                    · replace h := cT h c
                      refine .inl ?_
                      replace h := Option.some.inj h
                      subst h
                      exact ⟨[.p (B false)], [], ⟨[], ⟨rfl, trivial⟩, trivial, rfl⟩, rfl, rfl, rfl⟩
                    · replace h := cF h c
                      exact ⟨(), h, [], ⟨rfl, rfl, trivial⟩, trivial, rfl⟩
            · replace h := cT h c
              refine And.intro (fun c => absurd c (by decide)) (fun _ => ?_)
              refine And.intro (fun c => absurd c (by decide)) (fun _ => ?_)
              refine And.intro (fun c => absurd c (by decide)) (fun _ => ?_)
              refine And.intro (fun c => absurd c (by decide)) (fun _ => ?_)
              refine And.intro (fun _ => ?_) (fun c => absurd c (by decide))
              refine And.intro (fun _ => ?_) (fun c => absurd c (by decide))
              refine .inl ?_
              replace h := Option.some.inj h
              subst h
              exact ⟨[.p (B false)], [], ⟨[], ⟨rfl, trivial⟩, trivial, rfl⟩, rfl, rfl, rfl⟩
        · rintro _ h
          unfold m_spec_ProgramOK_j20 at h
          exact ⟨(wr .i64 (v15 + 1)), k18, h, Nat.lt_succ_self _, [], ⟨rfl, rfl, trivial⟩, trivial, rfl⟩
      · replace h := cF h c
        exact ⟨(), h, [], ⟨rfl, trivial⟩, trivial, rfl⟩
    · rintro _ h
      unfold m_spec_ProgramOK_j11 at h
      refine .inl ?_
      obtain ⟨x31, hx31, h⟩ := bsm h
      refine And.intro (ix0 hx31) (Exists.intro _ (And.intro (gm (ixg hx31)) (And.intro rfl ?_)))
      obtain ⟨r64, hr64, h⟩ := bsm h
      refine callA (c_spec_l17Goes n x31.op_ _ hr64) ?_
      replace h := Option.some.inj h
      subst h
      exact ⟨[.p (B (!r64))], [], ⟨[], ⟨rfl, trivial⟩, trivial, rfl⟩, rfl, rfl, rfl⟩
def m_spec_l03Until_j2 (v23 : Int) : Option Int :=
  some v23
def m_spec_l03Until_l3 (a12 : ByteArray) (a14 : Int) : Nat → Int → Option Int
  | 0, _ => none
  | k3 + 1, v24 =>
    bif (decide (v24 < (a12.size : Int))) then (
      gp (0 ≤ v24 ∧ v24 < (a12.size : Int)) <|
      bif ((bt a12 v24) != a14) then (
        (m_spec_l03Until_l3 a12 a14 k3) (wr .i64 (v24 + 1)))
      else (
        m_spec_l03Until_j2 v24))
    else (
      m_spec_l03Until_j2 v24)
def m_spec_l03Until (n : Nat) (a12 : ByteArray) (a13 : Int) (a14 : Int) : Option Int :=
  m_spec_l03Until_l3 a12 a14 n a13
theorem c_spec_l03Until (n : Nat) (a12 : ByteArray) (a13 : Int) (a14 : Int) (r : Int) (h : m_spec_l03Until n a12 a13 a14 = some r) : FnP Tryd.prog 27 [S a12, I a13, .raw (.int .u8 a14)] [I r] := by
  unfold m_spec_l03Until at h
  refine fn_introJ Tryd.func27 rfl rfl rfl ?_
  refine .inl ?_
  refine .inr ⟨Int, fun x => ([(1, .p (I x))], []), fun x => m_spec_l03Until_j2 x = some r, ?_, ?_⟩
  · refine ⟨Int, fun x => ([(0, .p (S a12)), (1, .p (I x)), (2, .p (.raw (.int .u8 a14)))], []), fun x k => m_spec_l03Until_l3 a12 a14 k x = some r, ⟨a13, n, h, [], ⟨rfl, rfl, rfl, trivial⟩, trivial, rfl⟩, ?_⟩
    rintro v24 (_ | k3) h
    · exact ns h
    unfold m_spec_l03Until_l3 at h
    refine .inl ?_
    refine .inl ?_
    refine And.intro (fun c => ?_) (fun c => ?_)
    · replace h := cT h c
      refine And.intro (fun _ => ?_) (fun c => absurd c (by decide))
      refine And.intro (fun _ => ?_) (fun c => absurd c (by decide))
      obtain ⟨g12, h⟩ := gpT h
      refine And.intro g12 ?_
      refine And.intro (fun _ => ?_) (fun c => absurd c (by decide))
      refine And.intro (fun _ => ?_) (fun c => absurd c (by decide))
      refine And.intro (fun _ => ?_) (fun c => absurd c (by decide))
      refine And.intro (fun c => ?_) (fun c => ?_)
      · replace h := cT h c
        exact ⟨(wr .i64 (v24 + 1)), k3, h, Nat.lt_succ_self _, [], ⟨rfl, rfl, rfl, trivial⟩, trivial, rfl⟩
      · replace h := cF h c
        exact ⟨v24, h, [], ⟨rfl, trivial⟩, trivial, rfl⟩
    · replace h := cF h c
      refine And.intro (fun c => absurd c (by decide)) (fun _ => ?_)
      refine And.intro (fun c => absurd c (by decide)) (fun _ => ?_)
      refine And.intro (fun c => absurd c (by decide)) (fun _ => ?_)
      refine And.intro (fun c => absurd c (by decide)) (fun _ => ?_)
      refine And.intro (fun c => absurd c (by decide)) (fun _ => ?_)
      refine And.intro (fun c => absurd c (by decide)) (fun _ => ?_)
      exact ⟨v24, h, [], ⟨rfl, trivial⟩, trivial, rfl⟩
  · rintro v23 h
    unfold m_spec_l03Until_j2 at h
    refine .inl ?_
    replace h := Option.some.inj h
    subst h
    exact ⟨[.p (I v23)], [], ⟨[], ⟨rfl, trivial⟩, trivial, rfl⟩, rfl, rfl, rfl⟩
def m_spec_l17Word (n : Nat) (a15 : Int) : Option ByteArray :=
  (ix ([⟨#[]⟩, ⟨#[112, 117, 115, 104]⟩, ⟨#[100, 114, 111, 112]⟩, ⟨#[116, 101, 108, 108]⟩, ⟨#[112, 97, 115, 115]⟩, ⟨#[106, 117, 109, 112]⟩, ⟨#[105, 102, 110, 101, 120, 116]⟩, ⟨#[105, 102, 101, 110, 100]⟩, ⟨#[105, 102, 116, 111, 112]⟩, ⟨#[100, 111, 110, 101]⟩, ⟨#[102, 97, 105, 108]⟩]) a15).bind fun x38 =>
  some x38
theorem c_spec_l17Word (n : Nat) (a15 : Int) (r : ByteArray) (h : m_spec_l17Word n a15 = some r) : FnP Tryd.prog 35 [I a15] [S r] := by
  unfold m_spec_l17Word at h
  refine fn_introJ Tryd.func35 rfl rfl rfl ?_
  refine .inl ?_
  refine .inl ?_
  refine And.intro (show fits _ _ from ⟨⟨rfl, rfl⟩, ⟨⟨rfl, rfl⟩, ⟨⟨rfl, rfl⟩, ⟨⟨rfl, rfl⟩, ⟨⟨rfl, rfl⟩, ⟨⟨rfl, rfl⟩, ⟨⟨rfl, rfl⟩, ⟨⟨rfl, rfl⟩, ⟨⟨rfl, rfl⟩, ⟨⟨rfl, rfl⟩, ⟨⟨rfl, rfl⟩, trivial⟩⟩⟩⟩⟩⟩⟩⟩⟩⟩⟩) ?_
  obtain ⟨x38, hx38, h⟩ := bsm h
  refine And.intro (by have q := ixr hx38; simp at q ⊢; omega) ?_
  refine Exists.intro _ (And.intro (gz (gc (show [S ⟨#[]⟩, S ⟨#[112, 117, 115, 104]⟩, S ⟨#[100, 114, 111, 112]⟩, S ⟨#[116, 101, 108, 108]⟩, S ⟨#[112, 97, 115, 115]⟩, S ⟨#[106, 117, 109, 112]⟩, S ⟨#[105, 102, 110, 101, 120, 116]⟩, S ⟨#[105, 102, 101, 110, 100]⟩, S ⟨#[105, 102, 116, 111, 112]⟩, S ⟨#[100, 111, 110, 101]⟩, S ⟨#[102, 97, 105, 108]⟩] = ([⟨#[]⟩, ⟨#[112, 117, 115, 104]⟩, ⟨#[100, 114, 111, 112]⟩, ⟨#[116, 101, 108, 108]⟩, ⟨#[112, 97, 115, 115]⟩, ⟨#[106, 117, 109, 112]⟩, ⟨#[105, 102, 110, 101, 120, 116]⟩, ⟨#[105, 102, 101, 110, 100]⟩, ⟨#[105, 102, 116, 111, 112]⟩, ⟨#[100, 111, 110, 101]⟩, ⟨#[102, 97, 105, 108]⟩] : List ByteArray).map S by simp) (gm (ixg hx38)))) ?_)
  replace h := Option.some.inj h
  subst h
  exact ⟨[.p (S x38)], [], ⟨[], ⟨rfl, trivial⟩, trivial, rfl⟩, rfl, rfl, rfl⟩
def m_spec_l01Digits : Nat → Int → Option ByteArray
  | 0, _ => none
  | n + 1, a16 =>
    bif (decide (a16 < 0)) then (
      ((m_spec_l01Digits n) (wr .i64 (0 - a16))).bind fun r113 =>
      gp ((((⟨#[45]⟩ : ByteArray).size + r113.size : Nat) : Int) ≤ 9223372036854775807) <|
      some ((⟨#[45]⟩ : ByteArray) ++ r113))
    else (
      bif (decide (a16 < 10)) then (
        (toU8 (wr .u8 (wr .i64 (48 + a16)))).bind fun u1 =>
        some (ofL [u1]))
      else (
        ((m_spec_l01Digits n) (wr .i64 (a16.tdiv 10))).bind fun r116 =>
        (toU8 (wr .u8 (wr .i64 (48 + (a16.tmod 10))))).bind fun u4 =>
        gp (((r116.size + (ofL [u4]).size : Nat) : Int) ≤ 9223372036854775807) <|
        some (r116 ++ (ofL [u4]))))
theorem c_spec_l01Digits : ∀ (n : Nat) (a16 : Int) (r : ByteArray) (h : m_spec_l01Digits n a16 = some r), FnP Tryd.prog 36 [I a16] [S r]
  | 0, _, r, h => ns h
  | n + 1, a16, r, h => by
    have ih_spec_l01Digits := c_spec_l01Digits n
    unfold m_spec_l01Digits at h
    refine fn_introJ Tryd.func36 rfl rfl rfl ?_
    refine .inl ?_
    refine .inl ?_
    refine .inl ?_
    refine And.intro (fun c => ?_) (fun c => ?_)
    · replace h := cT h c
      refine .inl ?_
      obtain ⟨r113, hr113, h⟩ := bsm h
      refine callA (ih_spec_l01Digits (wr .i64 (0 - a16)) _ hr113) ?_
      obtain ⟨g1, h⟩ := gpT h
      refine And.intro g1 ?_
      replace h := Option.some.inj h
      subst h
      exact ⟨[.p (S ((⟨#[45]⟩ : ByteArray) ++ r113))], [], ⟨[], ⟨rfl, trivial⟩, trivial, rfl⟩, rfl, rfl, rfl⟩
    · replace h := cF h c
      refine .inl ?_
      refine .inl ?_
      refine And.intro (fun c => ?_) (fun c => ?_)
      · replace h := cT h c
        refine .inl ?_
        obtain ⟨u1, hu1, h⟩ := bsm h
        have eu1 := toU8_ok hu1
        refine And.intro (show fits _ _ from ⟨⟨rfl, rfl⟩, trivial⟩) ?_
        refine Exists.intro _ (And.intro (rowN (show [.raw (.int .u8 (wr .u8 (wr .i64 (48 + a16))))] = bl [u1] by first | (simp [eu1]; done) | (simp [eu1]; omega)) (show 1 = (bl [u1]).length by first | (simp [eu1]; done) | (simp [eu1]; omega))) ?_)
        refine Exists.intro (ofL [u1]) (And.intro (bl_bytes [u1]) ?_)
        replace h := Option.some.inj h
        subst h
        exact ⟨[.p (S (ofL [u1]))], [], ⟨[], ⟨rfl, trivial⟩, trivial, rfl⟩, rfl, rfl, rfl⟩
      · replace h := cF h c
        refine .inl ?_
        refine ⟨[0, 1, 3, 4, 5, 6, 5000, 2, 7, 8, 9, 10, 7, 8, 2, 9, 10], [], by decide +kernel, ?_⟩
        obtain ⟨r116, hr116, h⟩ := bsm h
        obtain ⟨u4, hu4, h⟩ := bsm h
        obtain ⟨g4, h⟩ := gpT h
        refine And.intro (by decide) ?_
        refine And.intro (by decide) ?_
        refine And.intro ?_ ?_
        · skip
          refine callA (ih_spec_l01Digits (wr .i64 (a16.tdiv 10)) _ hr116) ?_
          have eu4 := toU8_ok hu4
          refine And.intro (show fits _ _ from ⟨⟨rfl, rfl⟩, trivial⟩) ?_
          refine Exists.intro _ (And.intro (rowN (show [.raw (.int .u8 (wr .u8 (wr .i64 (48 + (a16.tmod 10)))))] = bl [u4] by first | (simp [eu4]; done) | (simp [eu4]; omega)) (show 1 = (bl [u4]).length by first | (simp [eu4]; done) | (simp [eu4]; omega))) ?_)
          refine Exists.intro (ofL [u4]) (And.intro (bl_bytes [u4]) ?_)
          refine And.intro g4 ?_
          replace h := Option.some.inj h
          subst h
          exact ⟨[.p (S (r116 ++ (ofL [u4])))], [], ⟨[], ⟨rfl, trivial⟩, trivial, rfl⟩, rfl, rfl, rfl⟩
        · skip
          have eu5 := toU8_ok hu4
          refine And.intro (show fits _ _ from ⟨⟨rfl, rfl⟩, trivial⟩) ?_
          refine Exists.intro _ (And.intro (rowN (show [.raw (.int .u8 (wr .u8 (wr .i64 (48 + (a16.tmod 10)))))] = bl [u4] by first | (simp [eu5]; done) | (simp [eu5]; omega)) (show 1 = (bl [u4]).length by first | (simp [eu5]; done) | (simp [eu5]; omega))) ?_)
          refine Exists.intro (ofL [u4]) (And.intro (bl_bytes [u4]) ?_)
          refine callA (ih_spec_l01Digits (wr .i64 (a16.tdiv 10)) _ hr116) ?_
          refine And.intro g4 ?_
          replace h := Option.some.inj h
          subst h
          exact ⟨[.p (S (r116 ++ (ofL [u4])))], [], ⟨[], ⟨rfl, trivial⟩, trivial, rfl⟩, rfl, rfl, rfl⟩
def m_spec_l17Line_j2 (n : Nat) (a17 : gIns) (v27 : ByteArray) : Option ByteArray :=
  (m_spec_l17HasTo n a17.op_).bind fun r122 =>
  bif r122 then (
    gp (((v27.size + (⟨#[32]⟩ : ByteArray).size : Nat) : Int) ≤ 9223372036854775807) <|
    (m_spec_l01Digits n a17.to_).bind fun r123 =>
    gp ((((v27 ++ (⟨#[32]⟩ : ByteArray)).size + r123.size : Nat) : Int) ≤ 9223372036854775807) <|
    some ((v27 ++ (⟨#[32]⟩ : ByteArray)) ++ r123))
  else (
    some v27)
def m_spec_l17Line_j3 (n : Nat) (a17 : gIns) (r118 : ByteArray) (v28 : Bool) : Option ByteArray :=
  bif v28 then (
    gp (((r118.size + (⟨#[32]⟩ : ByteArray).size : Nat) : Int) ≤ 9223372036854775807) <|
    (m_spec_l01Digits n a17.n_).bind fun r125 =>
    gp ((((r118 ++ (⟨#[32]⟩ : ByteArray)).size + r125.size : Nat) : Int) ≤ 9223372036854775807) <|
    m_spec_l17Line_j2 n a17 ((r118 ++ (⟨#[32]⟩ : ByteArray)) ++ r125))
  else (
    m_spec_l17Line_j2 n a17 r118)
def m_spec_l17Line (n : Nat) (a17 : gIns) : Option ByteArray :=
  (m_spec_l17Word n a17.op_).bind fun r118 =>
  (m_spec_l17HasN n a17.op_).bind fun r126 =>
  bif r126 then (
    m_spec_l17Line_j3 n a17 r118 true)
  else (
    m_spec_l17Line_j3 n a17 r118 (a17.op_ == 10))
theorem c_spec_l17Line (n : Nat) (a17 : gIns) (r : ByteArray) (h : m_spec_l17Line n a17 = some r) : FnP Tryd.prog 15 [a17.enc] [S r] := by
  unfold m_spec_l17Line at h
  refine fn_introJ Tryd.func15 rfl rfl rfl ?_
  refine .inl ?_
  refine .inl ?_
  obtain ⟨r118, hr118, h⟩ := bsm h
  refine callA (c_spec_l17Word n a17.op_ _ hr118) ?_
  refine .inr ⟨ByteArray, fun x => ([(1, .ptr 0 0), (3, .p (S x))], [.box 38 [.p (I a17.op_), .p (I a17.n_), .p (I a17.to_)]]), fun x => m_spec_l17Line_j2 n a17 x = some r, ?_, ?_⟩
  · refine .inr ⟨Bool, fun x => ([(1, .ptr 0 0), (3, .p (S r118)), (14, .p (B x))], [.box 38 [.p (I a17.op_), .p (I a17.n_), .p (I a17.to_)]]), fun x => m_spec_l17Line_j3 n a17 r118 x = some r, ?_, ?_⟩
    · obtain ⟨r126, hr126, h⟩ := bsm h
      refine callA (c_spec_l17HasN n a17.op_ _ hr126) ?_
      refine And.intro (fun c => ?_) (fun c => ?_)
      · replace h := cF h c
        refine And.intro (fun _ => ?_) (fun c => absurd c (by decide))
        refine And.intro (fun _ => ?_) (fun c => absurd c (by decide))
        refine And.intro (fun c => absurd c (by decide)) (fun _ => ?_)
        exact ⟨(a17.op_ == 10), h, [], ⟨rfl, rfl, rfl, trivial⟩, ⟨⟨rfl, rfl, rfl, rfl, trivial⟩, trivial⟩, rfl⟩
      · replace h := cT h c
        refine And.intro (fun c => absurd c (by decide)) (fun _ => ?_)
        refine And.intro (fun c => absurd c (by decide)) (fun _ => ?_)
        refine And.intro (fun _ => ?_) (fun c => absurd c (by decide))
        exact ⟨true, h, [], ⟨rfl, rfl, rfl, trivial⟩, ⟨⟨rfl, rfl, rfl, rfl, trivial⟩, trivial⟩, rfl⟩
    · rintro v28 h
      unfold m_spec_l17Line_j3 at h
      refine And.intro (fun c => ?_) (fun c => ?_)
      · replace h := cT h c
        obtain ⟨g6, h⟩ := gpT h
        refine And.intro g6 ?_
        obtain ⟨r125, hr125, h⟩ := bsm h
        refine callA (c_spec_l01Digits n a17.n_ _ hr125) ?_
        obtain ⟨g5, h⟩ := gpT h
        refine And.intro g5 ?_
        exact ⟨((r118 ++ (⟨#[32]⟩ : ByteArray)) ++ r125), h, [], ⟨rfl, rfl, trivial⟩, ⟨⟨rfl, rfl, rfl, rfl, trivial⟩, trivial⟩, rfl⟩
      · replace h := cF h c
        exact ⟨r118, h, [], ⟨rfl, rfl, trivial⟩, ⟨⟨rfl, rfl, rfl, rfl, trivial⟩, trivial⟩, rfl⟩
  · rintro v27 h
    unfold m_spec_l17Line_j2 at h
    refine .inl ?_
    refine .inl ?_
    obtain ⟨r122, hr122, h⟩ := bsm h
    refine callA (c_spec_l17HasTo n a17.op_ _ hr122) ?_
    refine And.intro (fun c => ?_) (fun c => ?_)
    · replace h := cT h c
      obtain ⟨g4, h⟩ := gpT h
      refine And.intro g4 ?_
      obtain ⟨r123, hr123, h⟩ := bsm h
      refine callA (c_spec_l01Digits n a17.to_ _ hr123) ?_
      obtain ⟨g3, h⟩ := gpT h
      refine And.intro g3 ?_
      refine .inl ?_
      replace h := Option.some.inj h
      subst h
      exact ⟨[.p (S ((v27 ++ (⟨#[32]⟩ : ByteArray)) ++ r123))], [], ⟨[], ⟨rfl, trivial⟩, trivial, rfl⟩, rfl, rfl, rfl⟩
    · replace h := cF h c
      refine .inl ?_
      replace h := Option.some.inj h
      subst h
      exact ⟨[.p (S v27)], [], ⟨[], ⟨rfl, trivial⟩, trivial, rfl⟩, rfl, rfl, rfl⟩
def m_spec_l01Digit (n : Nat) (a18 : Int) : Option Bool :=
  bif (decide (a18 ≥ 48)) then (
    some (decide (a18 ≤ 57)))
  else (
    some false)
theorem c_spec_l01Digit (n : Nat) (a18 : Int) (r : Bool) (h : m_spec_l01Digit n a18 = some r) : FnP Tryd.prog 41 [.raw (.int .u8 a18)] [B r] := by
  unfold m_spec_l01Digit at h
  refine fn_introJ Tryd.func41 rfl rfl rfl ?_
  refine .inl ?_
  refine .inl ?_
  refine And.intro (fun c => ?_) (fun c => ?_)
  · replace h := cT h c
    refine And.intro (fun _ => ?_) (fun c => absurd c (by decide))
    refine And.intro (fun _ => ?_) (fun c => absurd c (by decide))
    replace h := Option.some.inj h
    subst h
    exact ⟨[.p (B (decide (a18 ≤ 57)))], [], ⟨[], ⟨rfl, trivial⟩, trivial, rfl⟩, rfl, rfl, rfl⟩
  · replace h := cF h c
    refine And.intro (fun c => absurd c (by decide)) (fun _ => ?_)
    refine And.intro (fun c => absurd c (by decide)) (fun _ => ?_)
    replace h := Option.some.inj h
    subst h
    exact ⟨[.p (B false)], [], ⟨[], ⟨rfl, trivial⟩, trivial, rfl⟩, rfl, rfl, rfl⟩
def m_spec_l17ReadLine_j72 : Option (gIns × Bool) :=
  some ((gIns.mk 0 0 0), false)
def m_spec_l17ReadLine_j107 (n : Nat) (a19 : ByteArray) (v168 : Int) (rec97 : Int → Option (gIns × Bool)) (v193 : Int) (v195 : Int) : Option (gIns × Bool) :=
  (m_spec_l17Line n (gIns.mk v168 v193 v195)).bind fun r272 =>
  bif (decide (r272 = a19)) then (
    some ((gIns.mk v168 v193 v195), true))
  else (
    rec97 (wr .i64 (v168 + 1)))
def m_spec_l17ReadLine_j108 (n : Nat) (a19 : ByteArray) (v109 : List Int) (v168 : Int) (rec97 : Int → Option (gIns × Bool)) (v192 : Int) (v193 : Int) (v196 : Bool) : Option (gIns × Bool) :=
  bif v196 then (
    (ix v109 v192).bind fun x199 =>
    m_spec_l17ReadLine_j107 n a19 v168 rec97 v193 x199)
  else (
    m_spec_l17ReadLine_j107 n a19 v168 rec97 v193 0)
def m_spec_l17ReadLine_j105 (n : Nat) (a19 : ByteArray) (v109 : List Int) (v168 : Int) (rec97 : Int → Option (gIns × Bool)) (v192 : Int) (v193 : Int) : Option (gIns × Bool) :=
  bif (decide (v192 < ((v109.length : Nat) : Int))) then (
    (m_spec_l17HasTo n v168).bind fun r274 =>
    m_spec_l17ReadLine_j108 n a19 v109 v168 rec97 v192 v193 r274)
  else (
    m_spec_l17ReadLine_j108 n a19 v109 v168 rec97 v192 v193 false)
def m_spec_l17ReadLine_j109 (n : Nat) (a19 : ByteArray) (v109 : List Int) (v168 : Int) (rec97 : Int → Option (gIns × Bool)) (v197 : Bool) : Option (gIns × Bool) :=
  bif v197 then (
    (ix v109 0).bind fun x200 =>
    m_spec_l17ReadLine_j105 n a19 v109 v168 rec97 (wr .i64 (0 + 1)) x200)
  else (
    m_spec_l17ReadLine_j105 n a19 v109 v168 rec97 0 0)
def m_spec_l17ReadLine_l97 (n : Nat) (a19 : ByteArray) (v109 : List Int) : Nat → Int → Option (gIns × Bool)
  | 0, _ => none
  | k97 + 1, v168 =>
    bif (decide (v168 ≤ 10)) then (
      bif (decide (0 < ((v109.length : Nat) : Int))) then (
        (m_spec_l17HasN n v168).bind fun r276 =>
        bif r276 then (
          m_spec_l17ReadLine_j109 n a19 v109 v168 (m_spec_l17ReadLine_l97 n a19 v109 k97) true)
        else (
          m_spec_l17ReadLine_j109 n a19 v109 v168 (m_spec_l17ReadLine_l97 n a19 v109 k97) (v168 == 10)))
      else (
        m_spec_l17ReadLine_j109 n a19 v109 v168 (m_spec_l17ReadLine_l97 n a19 v109 k97) false))
    else (
      m_spec_l17ReadLine_j72)
def m_spec_l17ReadLine_j34 (n : Nat) (a19 : ByteArray) (v109 : List Int) : Option (gIns × Bool) :=
  m_spec_l17ReadLine_l97 n a19 v109 n 1
def m_spec_l17ReadLine_j128 (v217 : Int) (rec124 : Int → List Int → Option (gIns × Bool)) (v249 : List Int) : Option (gIns × Bool) :=
  rec124 (wr .i64 (v217 + 1)) v249
def m_spec_l17ReadLine_j130 (v217 : Int) (v218 : List Int) (rec124 : Int → List Int → Option (gIns × Bool)) (v254 : Int) : Option (gIns × Bool) :=
  gp (v218.length + ([v254] : List Int).length ≤ 68719476736) <|
  m_spec_l17ReadLine_j128 v217 rec124 (v218 ++ [v254])
def m_spec_l17ReadLine_l131 (n : Nat) (v47 : List ByteArray) (v217 : Int) (v218 : List Int) (rec124 : Int → List Int → Option (gIns × Bool)) : Nat → Int → Int → Option (gIns × Bool)
  | 0, _, _ => none
  | k131 + 1, v255, v256 =>
    (ix v47 v217).bind fun x312 =>
    bif (decide (v256 < (x312.size : Int))) then (
      (ix v47 v217).bind fun x313 =>
      gp (0 ≤ v256 ∧ v256 < (x313.size : Int)) <|
      (m_spec_l01Digit n (bt x313 v256)).bind fun r318 =>
      bif (!r318) then (
        some ((gIns.mk 0 0 0), false))
      else (
        (ix v47 v217).bind fun x314 =>
        gp (0 ≤ v256 ∧ v256 < (x314.size : Int)) <|
        (m_spec_l17ReadLine_l131 n v47 v217 v218 rec124 k131) (wr .i64 ((wr .i64 ((wr .i64 (v255 * 10)) + (wr .i64 (bt x314 v256)))) - 48)) (wr .i64 (v256 + 1))))
    else (
      m_spec_l17ReadLine_j130 v217 v218 rec124 v255)
def m_spec_l17ReadLine_l124 (n : Nat) (a19 : ByteArray) (v47 : List ByteArray) : Nat → Int → List Int → Option (gIns × Bool)
  | 0, _, _ => none
  | k124 + 1, v217, v218 =>
    bif (decide (v217 < ((v47.length : Nat) : Int))) then (
      (ix v47 v217).bind fun x296 =>
      (m_spec_l01Between n (x296.size : Int) 1 6).bind fun r312 =>
      bif (!r312) then (
        some ((gIns.mk 0 0 0), false))
      else (
        m_spec_l17ReadLine_l131 n v47 v217 v218 (m_spec_l17ReadLine_l124 n a19 v47 k124) n 0 0))
    else (
      m_spec_l17ReadLine_j34 n a19 v218)
def m_spec_l17ReadLine_j11 (n : Nat) (a19 : ByteArray) (v47 : List ByteArray) : Option (gIns × Bool) :=
  bif (decide (((v47.length : Nat) : Int) > 3)) then (
    some ((gIns.mk 0 0 0), false))
  else (
    m_spec_l17ReadLine_l124 n a19 v47 n 1 [])
def m_spec_l17ReadLine_j140 (v264 : Int) (rec138 : Int → Int → List ByteArray → Option (gIns × Bool)) (v274 : Int) (v275 : List ByteArray) : Option (gIns × Bool) :=
  rec138 v274 (wr .i64 (v264 + 1)) v275
def m_spec_l17ReadLine_j141 (a19 : ByteArray) (v263 : Int) (v264 : Int) (v265 : List ByteArray) (rec138 : Int → Int → List ByteArray → Option (gIns × Bool)) (v276 : Bool) : Option (gIns × Bool) :=
  bif v276 then (
    gp (0 ≤ v263 ∧ v263 ≤ v264 ∧ v264 ≤ (a19.size : Int)) <|
    gp (v265.length + ([(a19.extract v263.toNat v264.toNat)] : List ByteArray).length ≤ 68719476736) <|
    m_spec_l17ReadLine_j140 v264 rec138 (wr .i64 (v264 + 1)) (v265 ++ [(a19.extract v263.toNat v264.toNat)]))
  else (
    m_spec_l17ReadLine_j140 v264 rec138 v263 v265)
def m_spec_l17ReadLine_l138 (n : Nat) (a19 : ByteArray) : Nat → Int → Int → List ByteArray → Option (gIns × Bool)
  | 0, _, _, _ => none
  | k138 + 1, v263, v264, v265 =>
    bif (decide (v264 ≤ (a19.size : Int))) then (
      bif (v264 == (a19.size : Int)) then (
        m_spec_l17ReadLine_j141 a19 v263 v264 v265 (m_spec_l17ReadLine_l138 n a19 k138) true)
      else (
        gp (0 ≤ v264 ∧ v264 < (a19.size : Int)) <|
        m_spec_l17ReadLine_j141 a19 v263 v264 v265 (m_spec_l17ReadLine_l138 n a19 k138) ((bt a19 v264) == 32)))
    else (
      m_spec_l17ReadLine_j11 n a19 v265)
def m_spec_l17ReadLine (n : Nat) (a19 : ByteArray) : Option (gIns × Bool) :=
  m_spec_l17ReadLine_l138 n a19 n 0 0 []
theorem c_spec_l17ReadLine (n : Nat) (a19 : ByteArray) (r : gIns × Bool) (h : m_spec_l17ReadLine n a19 = some r) : FnP Tryd.prog 28 [S a19] [r.1.enc, B r.2] := by
  unfold m_spec_l17ReadLine at h
  refine fn_introJ Tryd.func28 rfl rfl rfl ?_
  refine .inl ?_
  refine .inl ?_
  refine And.intro (show fits _ _ from trivial) ?_
  refine .inl ?_
  refine .inr ⟨List ByteArray, fun x => ([(0, .p (S a19)), (2, .ptr 0 0), (4, .row 1 1 0 x.length)], [.box 38 [.p (I 0), .p (I 0), .p (I 0)], .row 9 1 (x.map S)]), fun x => m_spec_l17ReadLine_j11 n a19 x = some r, ?_, ?_⟩
  · refine .inl ?_
    refine ⟨Int × Int × List ByteArray, fun x => ([(0, .p (S a19)), (2, .ptr 0 0), (4, .row 1 1 0 x.2.2.length), (5, .p (I x.1)), (6, .p (I x.2.1))], [.box 38 [.p (I 0), .p (I 0), .p (I 0)], .row 9 1 (x.2.2.map S)]), fun x k => m_spec_l17ReadLine_l138 n a19 k x.1 x.2.1 x.2.2 = some r, ⟨(0, 0, []), n, h, [], ⟨rfl, rfl, (congrArg (AV.row 1 1 0) (show [].length = 0 by first | (simp; done) | (simp; omega))), rfl, rfl, trivial⟩, ⟨⟨rfl, rfl, rfl, rfl, trivial⟩, (congrArg (Bk.row 9 1) (show [].map S = [] by simp)), trivial⟩, rfl⟩, ?_⟩
    rintro ⟨v263, v264, v265⟩ (_ | k138) h
    · exact ns h
    unfold m_spec_l17ReadLine_l138 at h
    refine .inl ?_
    refine .inl ?_
    refine And.intro (fun c => ?_) (fun c => ?_)
    · replace h := cT h c
      refine .inr ⟨Int × List ByteArray, fun x => ([(0, .p (S a19)), (2, .ptr 0 0), (4, .row 1 1 0 x.2.length), (5, .p (I x.1)), (6, .p (I v264))], [.box 38 [.p (I 0), .p (I 0), .p (I 0)], .row 9 1 (x.2.map S)]), fun x => m_spec_l17ReadLine_j140 v264 (m_spec_l17ReadLine_l138 n a19 k138) x.1 x.2 = some r, ?_, ?_⟩
      · refine .inr ⟨Bool, fun x => ([(0, .p (S a19)), (2, .ptr 0 0), (4, .row 1 1 0 v265.length), (5, .p (I v263)), (6, .p (I v264)), (30, .p (B x))], [.box 38 [.p (I 0), .p (I 0), .p (I 0)], .row 9 1 (v265.map S)]), fun x => m_spec_l17ReadLine_j141 a19 v263 v264 v265 (m_spec_l17ReadLine_l138 n a19 k138) x = some r, ?_, ?_⟩
        · refine And.intro (fun c => ?_) (fun c => ?_)
          · replace h := cF h c
            refine And.intro (fun _ => ?_) (fun c => absurd c (by decide))
            refine And.intro (fun _ => ?_) (fun c => absurd c (by decide))
            obtain ⟨g204, h⟩ := gpT h
            refine And.intro g204 ?_
            refine And.intro (fun _ => ?_) (fun c => absurd c (by decide))
            refine And.intro (fun c => absurd c (by decide)) (fun _ => ?_)
            exact ⟨((bt a19 v264) == 32), h, [], ⟨rfl, rfl, rfl, rfl, rfl, rfl, trivial⟩, ⟨⟨rfl, rfl, rfl, rfl, trivial⟩, rfl, trivial⟩, rfl⟩
          · replace h := cT h c
            refine And.intro (fun c => absurd c (by decide)) (fun _ => ?_)
            refine And.intro (fun c => absurd c (by decide)) (fun _ => ?_)
            refine And.intro (fun c => absurd c (by decide)) (fun _ => ?_)
            refine And.intro (fun _ => ?_) (fun c => absurd c (by decide))
            exact ⟨true, h, [], ⟨rfl, rfl, rfl, rfl, rfl, rfl, trivial⟩, ⟨⟨rfl, rfl, rfl, rfl, trivial⟩, rfl, trivial⟩, rfl⟩
        · rintro v276 h
          unfold m_spec_l17ReadLine_j141 at h
          refine And.intro (fun c => ?_) (fun c => ?_)
          · replace h := cT h c
            refine .inl ?_
            obtain ⟨g203, h⟩ := gpT h
            refine And.intro g203 ?_
            refine And.intro (show fits _ _ from ⟨⟨rfl, rfl⟩, trivial⟩) ?_
            obtain ⟨g202, h⟩ := gpT h
            refine Exists.intro ([S (a19.extract v263.toNat v264.toNat)]) (And.intro (rowN rfl rfl) ?_)
            refine Exists.intro (v265.map S) (And.intro (rowX (rowN rfl (show v265.length = (v265.map S).length by first | (simp; done) | (simp; omega))) (show fits _ _ from ⟨⟨rfl, rfl⟩, trivial⟩) (appfitJ (by first | simpa using g202 | (simp at g202 ⊢; omega)) rfl)) ?_)
            exact ⟨((wr .i64 (v264 + 1)), (v265 ++ [(a19.extract v263.toNat v264.toNat)])), h, [], ⟨rfl, rfl, (congrArg (AV.row 1 1 0) (show (v265 ++ [(a19.extract v263.toNat v264.toNat)]).length = (v265.length + ([S (a19.extract v263.toNat v264.toNat)] : List PV).length) by first | (simp; done) | (simp; omega))), rfl, rfl, trivial⟩, ⟨⟨rfl, rfl, rfl, rfl, trivial⟩, (congrArg (Bk.row 9 1) (show (v265 ++ [(a19.extract v263.toNat v264.toNat)]).map S = (v265.map S) ++ [S (a19.extract v263.toNat v264.toNat)] by simp)), trivial⟩, rfl⟩
          · replace h := cF h c
            exact ⟨(v263, v265), h, [], ⟨rfl, rfl, rfl, rfl, rfl, trivial⟩, ⟨⟨rfl, rfl, rfl, rfl, trivial⟩, rfl, trivial⟩, rfl⟩
      · rintro ⟨v274, v275⟩ h
        unfold m_spec_l17ReadLine_j140 at h
        exact ⟨(v274, (wr .i64 (v264 + 1)), v275), k138, h, Nat.lt_succ_self _, [], ⟨rfl, rfl, rfl, rfl, rfl, trivial⟩, ⟨⟨rfl, rfl, rfl, rfl, trivial⟩, rfl, trivial⟩, rfl⟩
    · replace h := cF h c
      exact ⟨v265, h, [], ⟨rfl, rfl, rfl, trivial⟩, ⟨⟨rfl, rfl, rfl, rfl, trivial⟩, rfl, trivial⟩, rfl⟩
  · rintro v47 h
    unfold m_spec_l17ReadLine_j11 at h
    refine .inl ?_
    refine .inl ?_
    refine And.intro (fun c => ?_) (fun c => ?_)
    · replace h := cT h c
      refine .inl ?_
      replace h := Option.some.inj h
      subst h
      exact ⟨[.p ((gIns.mk 0 0 0).enc), .p (B false)], [], ⟨[], ⟨rfl, rfl, trivial⟩, trivial, rfl⟩, rfl, rfl, rfl⟩
    · replace h := cF h c
      refine .inl ?_
      refine And.intro (show fits _ _ from trivial) ?_
      refine .inr ⟨List Int, fun x => ([(0, .p (S a19)), (2, .ptr 0 0), (7, .row 1 1 0 x.length)], [.box 38 [.p (I 0), .p (I 0), .p (I 0)], .row 3 1 (x.map I)]), fun x => m_spec_l17ReadLine_j34 n a19 x = some r, ?_, ?_⟩
      · refine .inl ?_
        refine ⟨Int × List Int, fun x => ([(0, .p (S a19)), (2, .ptr 0 0), (4, .row 1 1 0 v47.length), (7, .row 2 1 0 x.2.length), (8, .p (I x.1))], [.box 38 [.p (I 0), .p (I 0), .p (I 0)], .row 9 1 (v47.map S), .row 3 1 (x.2.map I)]), fun x k => m_spec_l17ReadLine_l124 n a19 v47 k x.1 x.2 = some r, ⟨(1, []), n, h, [], ⟨rfl, rfl, rfl, (congrArg (AV.row 2 1 0) (show [].length = 0 by first | (simp; done) | (simp; omega))), rfl, trivial⟩, ⟨⟨rfl, rfl, rfl, rfl, trivial⟩, rfl, (congrArg (Bk.row 3 1) (show [].map I = [] by simp)), trivial⟩, rfl⟩, ?_⟩
        rintro ⟨v217, v218⟩ (_ | k124) h
        · exact ns h
        unfold m_spec_l17ReadLine_l124 at h
        refine .inl ?_
        refine .inl ?_
        refine And.intro (fun c => ?_) (fun c => ?_)
        · replace h := cT h c
          refine .inr ⟨List Int, fun x => ([(0, .p (S a19)), (2, .ptr 0 0), (4, .row 1 1 0 v47.length), (7, .row 2 1 0 x.length), (8, .p (I v217))], [.box 38 [.p (I 0), .p (I 0), .p (I 0)], .row 9 1 (v47.map S), .row 3 1 (x.map I)]), fun x => m_spec_l17ReadLine_j128 v217 (m_spec_l17ReadLine_l124 n a19 v47 k124) x = some r, ?_, ?_⟩
          · refine .inl ?_
            refine .inl ?_
            refine .inl ?_
            obtain ⟨x296, hx296, h⟩ := bsm h
            refine And.intro (ixr hx296) ?_
            refine Exists.intro _ (And.intro (gz (gm (ixg hx296))) ?_)
            obtain ⟨r312, hr312, h⟩ := bsm h
            refine callA (c_spec_l01Between n (x296.size : Int) 1 6 _ hr312) ?_
            refine And.intro (fun c => ?_) (fun c => ?_)
            · replace h := cT h c
              refine .inl ?_
              replace h := Option.some.inj h
              subst h
              exact ⟨[.p ((gIns.mk 0 0 0).enc), .p (B false)], [], ⟨[], ⟨rfl, rfl, trivial⟩, trivial, rfl⟩, rfl, rfl, rfl⟩
            · replace h := cF h c
              refine .inr ⟨Int, fun x => ([(0, .p (S a19)), (2, .ptr 0 0), (4, .row 1 1 0 v47.length), (7, .row 2 1 0 v218.length), (8, .p (I v217)), (9, .p (I x))], [.box 38 [.p (I 0), .p (I 0), .p (I 0)], .row 9 1 (v47.map S), .row 3 1 (v218.map I)]), fun x => m_spec_l17ReadLine_j130 v217 v218 (m_spec_l17ReadLine_l124 n a19 v47 k124) x = some r, ?_, ?_⟩
              · refine .inl ?_
                refine ⟨Int × Int, fun x => ([(0, .p (S a19)), (2, .ptr 0 0), (4, .row 1 1 0 v47.length), (7, .row 2 1 0 v218.length), (8, .p (I v217)), (9, .p (I x.1)), (10, .p (I x.2))], [.box 38 [.p (I 0), .p (I 0), .p (I 0)], .row 9 1 (v47.map S), .row 3 1 (v218.map I)]), fun x k => m_spec_l17ReadLine_l131 n v47 v217 v218 (m_spec_l17ReadLine_l124 n a19 v47 k124) k x.1 x.2 = some r, ⟨(0, 0), n, h, [], ⟨rfl, rfl, rfl, rfl, rfl, rfl, rfl, trivial⟩, ⟨⟨rfl, rfl, rfl, rfl, trivial⟩, rfl, rfl, trivial⟩, rfl⟩, ?_⟩
                rintro ⟨v255, v256⟩ (_ | k131) h
                · exact ns h
                unfold m_spec_l17ReadLine_l131 at h
                refine .inl ?_
                refine .inl ?_
                obtain ⟨x312, hx312, h⟩ := bsm h
                refine And.intro (ixr hx312) ?_
                refine Exists.intro _ (And.intro (gz (gm (ixg hx312))) ?_)
                refine And.intro (fun c => ?_) (fun c => ?_)
                · replace h := cT h c
                  refine .inl ?_
                  refine .inl ?_
                  refine .inl ?_
                  obtain ⟨x313, hx313, h⟩ := bsm h
                  refine And.intro (ixr hx313) ?_
                  refine Exists.intro _ (And.intro (gz (gm (ixg hx313))) ?_)
                  obtain ⟨g180, h⟩ := gpT h
                  refine And.intro g180 ?_
                  obtain ⟨r318, hr318, h⟩ := bsm h
                  refine callA (c_spec_l01Digit n (bt x313 v256) _ hr318) ?_
                  refine And.intro (fun c => ?_) (fun c => ?_)
                  · replace h := cT h c
                    refine .inl ?_
                    replace h := Option.some.inj h
                    subst h
                    exact ⟨[.p ((gIns.mk 0 0 0).enc), .p (B false)], [], ⟨[], ⟨rfl, rfl, trivial⟩, trivial, rfl⟩, rfl, rfl, rfl⟩
                  · replace h := cF h c
                    obtain ⟨x314, hx314, h⟩ := bsm h
                    refine And.intro (ixr hx314) ?_
                    refine Exists.intro _ (And.intro (gz (gm (ixg hx314))) ?_)
                    obtain ⟨g179, h⟩ := gpT h
                    refine And.intro g179 ?_
                    exact ⟨((wr .i64 ((wr .i64 ((wr .i64 (v255 * 10)) + (wr .i64 (bt x314 v256)))) - 48)), (wr .i64 (v256 + 1))), k131, h, Nat.lt_succ_self _, [], ⟨rfl, rfl, rfl, rfl, rfl, rfl, rfl, trivial⟩, ⟨⟨rfl, rfl, rfl, rfl, trivial⟩, rfl, rfl, trivial⟩, rfl⟩
                · replace h := cF h c
                  exact ⟨v255, h, [], ⟨rfl, rfl, rfl, rfl, rfl, rfl, trivial⟩, ⟨⟨rfl, rfl, rfl, rfl, trivial⟩, rfl, rfl, trivial⟩, rfl⟩
              · rintro v254 h
                unfold m_spec_l17ReadLine_j130 at h
                refine And.intro (show fits _ _ from ⟨⟨rfl, rfl⟩, trivial⟩) ?_
                obtain ⟨g174, h⟩ := gpT h
                refine Exists.intro ([I v254]) (And.intro (rowN rfl rfl) ?_)
                refine Exists.intro (v218.map I) (And.intro (rowX (rowN rfl (show v218.length = (v218.map I).length by first | (simp; done) | (simp; omega))) (show fits _ _ from ⟨⟨rfl, rfl⟩, trivial⟩) (appfitJ (by first | simpa using g174 | (simp at g174 ⊢; omega)) rfl)) ?_)
                exact ⟨(v218 ++ [v254]), h, [], ⟨rfl, rfl, rfl, (congrArg (AV.row 2 1 0) (show (v218 ++ [v254]).length = (v218.length + ([I v254] : List PV).length) by first | (simp; done) | (simp; omega))), rfl, trivial⟩, ⟨⟨rfl, rfl, rfl, rfl, trivial⟩, rfl, (congrArg (Bk.row 3 1) (show (v218 ++ [v254]).map I = (v218.map I) ++ [I v254] by simp)), trivial⟩, rfl⟩
          · rintro v249 h
            unfold m_spec_l17ReadLine_j128 at h
            exact ⟨((wr .i64 (v217 + 1)), v249), k124, h, Nat.lt_succ_self _, [], ⟨rfl, rfl, rfl, rfl, rfl, trivial⟩, ⟨⟨rfl, rfl, rfl, rfl, trivial⟩, rfl, rfl, trivial⟩, rfl⟩
        · replace h := cF h c
          exact ⟨v218, h, [(999999, 0), (999999, 2)], ⟨rfl, rfl, rfl, trivial⟩, ⟨⟨rfl, rfl, rfl, rfl, trivial⟩, rfl, trivial⟩, rfl⟩
      · rintro v109 h
        unfold m_spec_l17ReadLine_j34 at h
        refine .inr ⟨Unit, fun x => ([(2, .ptr 0 0)], [.box 38 [.p (I 0), .p (I 0), .p (I 0)]]), fun x => m_spec_l17ReadLine_j72 = some r, ?_, ?_⟩
        · refine .inl ?_
          refine ⟨Int, fun x => ([(0, .p (S a19)), (2, .ptr 0 0), (7, .row 1 1 0 v109.length), (11, .p (I x))], [.box 38 [.p (I 0), .p (I 0), .p (I 0)], .row 3 1 (v109.map I)]), fun x k => m_spec_l17ReadLine_l97 n a19 v109 k x = some r, ⟨1, n, h, [], ⟨rfl, rfl, rfl, rfl, trivial⟩, ⟨⟨rfl, rfl, rfl, rfl, trivial⟩, rfl, trivial⟩, rfl⟩, ?_⟩
          rintro v168 (_ | k97) h
          · exact ns h
          unfold m_spec_l17ReadLine_l97 at h
          refine .inl ?_
          refine .inl ?_
          refine And.intro (fun c => ?_) (fun c => ?_)
          · replace h := cT h c
            refine .inl ?_
            refine .inl ?_
            refine .inl ?_
            refine .inr ⟨Int × Int, fun x => ([(0, .p (S a19)), (2, .ptr 0 0), (7, .row 1 1 0 v109.length), (11, .p (I v168)), (12, .ptr 2 0), (13, .p (I x.1))], [.box 38 [.p (I 0), .p (I 0), .p (I 0)], .row 3 1 (v109.map I), .box 38 [.p (I v168), .p (I x.2), .p (I 0)]]), fun x => m_spec_l17ReadLine_j105 n a19 v109 v168 (m_spec_l17ReadLine_l97 n a19 v109 k97) x.1 x.2 = some r, ?_, ?_⟩
            · refine .inr ⟨Bool, fun x => ([(0, .p (S a19)), (2, .ptr 0 0), (7, .row 1 1 0 v109.length), (11, .p (I v168)), (12, .ptr 2 0), (13, .p (I 0)), (109, .p (B x))], [.box 38 [.p (I 0), .p (I 0), .p (I 0)], .row 3 1 (v109.map I), .box 38 [.p (I v168), .p (I 0), .p (I 0)]]), fun x => m_spec_l17ReadLine_j109 n a19 v109 v168 (m_spec_l17ReadLine_l97 n a19 v109 k97) x = some r, ?_, ?_⟩
              · refine And.intro (fun c => ?_) (fun c => ?_)
                · replace h := cT h c
                  refine And.intro (fun _ => ?_) (fun c => absurd c (by decide))
                  obtain ⟨r276, hr276, h⟩ := bsm h
                  refine callA (c_spec_l17HasN n v168 _ hr276) ?_
                  refine And.intro (fun _ => ?_) (fun c => absurd c (by decide))
                  refine And.intro (fun c => ?_) (fun c => ?_)
                  · replace h := cF h c
                    refine And.intro (fun _ => ?_) (fun c => absurd c (by decide))
                    refine And.intro (fun _ => ?_) (fun c => absurd c (by decide))
                    refine And.intro (fun c => absurd c (by decide)) (fun _ => ?_)
                    refine And.intro (fun _ => ?_) (fun c => absurd c (by decide))
                    exact ⟨(v168 == 10), h, [], ⟨rfl, rfl, rfl, rfl, rfl, rfl, rfl, trivial⟩, ⟨⟨rfl, rfl, rfl, rfl, trivial⟩, rfl, ⟨rfl, rfl, rfl, rfl, trivial⟩, trivial⟩, rfl⟩
                  · replace h := cT h c
                    refine And.intro (fun c => absurd c (by decide)) (fun _ => ?_)
                    refine And.intro (fun _ => ?_) (fun c => absurd c (by decide))
                    refine And.intro (fun _ => ?_) (fun c => absurd c (by decide))
                    refine And.intro (fun _ => ?_) (fun c => absurd c (by decide))
                    exact ⟨true, h, [], ⟨rfl, rfl, rfl, rfl, rfl, rfl, rfl, trivial⟩, ⟨⟨rfl, rfl, rfl, rfl, trivial⟩, rfl, ⟨rfl, rfl, rfl, rfl, trivial⟩, trivial⟩, rfl⟩
                · replace h := cF h c
                  refine And.intro (fun c => absurd c (by decide)) (fun _ => ?_)
                  refine And.intro (fun c => absurd c (by decide)) (fun _ => ?_)
                  refine And.intro (fun c => absurd c (by decide)) (fun _ => ?_)
                  refine And.intro (fun c => absurd c (by decide)) (fun _ => ?_)
                  exact ⟨false, h, [], ⟨rfl, rfl, rfl, rfl, rfl, rfl, rfl, trivial⟩, ⟨⟨rfl, rfl, rfl, rfl, trivial⟩, rfl, ⟨rfl, rfl, rfl, rfl, trivial⟩, trivial⟩, rfl⟩
              · rintro v197 h
                unfold m_spec_l17ReadLine_j109 at h
                refine And.intro (fun c => ?_) (fun c => ?_)
                · replace h := cT h c
                  refine .inl ?_
                  obtain ⟨x200, hx200, h⟩ := bsm h
                  refine And.intro (ixr hx200) ?_
                  refine Exists.intro _ (And.intro (gz (gm (ixg hx200))) ?_)
                  exact ⟨((wr .i64 (0 + 1)), x200), h, [], ⟨rfl, rfl, rfl, rfl, rfl, rfl, trivial⟩, ⟨⟨rfl, rfl, rfl, rfl, trivial⟩, rfl, ⟨rfl, rfl, rfl, rfl, trivial⟩, trivial⟩, rfl⟩
                · replace h := cF h c
                  exact ⟨(0, 0), h, [], ⟨rfl, rfl, rfl, rfl, rfl, rfl, trivial⟩, ⟨⟨rfl, rfl, rfl, rfl, trivial⟩, rfl, ⟨rfl, rfl, rfl, rfl, trivial⟩, trivial⟩, rfl⟩
            · rintro ⟨v192, v193⟩ h
              unfold m_spec_l17ReadLine_j105 at h
              refine .inr ⟨Int, fun x => ([(0, .p (S a19)), (2, .ptr 0 0), (7, .row 1 1 0 v109.length), (11, .p (I v168)), (12, .ptr 2 0)], [.box 38 [.p (I 0), .p (I 0), .p (I 0)], .row 3 1 (v109.map I), .box 38 [.p (I v168), .p (I v193), .p (I x)]]), fun x => m_spec_l17ReadLine_j107 n a19 v168 (m_spec_l17ReadLine_l97 n a19 v109 k97) v193 x = some r, ?_, ?_⟩
              · refine .inr ⟨Bool, fun x => ([(0, .p (S a19)), (2, .ptr 0 0), (7, .row 1 1 0 v109.length), (11, .p (I v168)), (12, .ptr 2 0), (13, .p (I v192)), (124, .p (B x))], [.box 38 [.p (I 0), .p (I 0), .p (I 0)], .row 3 1 (v109.map I), .box 38 [.p (I v168), .p (I v193), .p (I 0)]]), fun x => m_spec_l17ReadLine_j108 n a19 v109 v168 (m_spec_l17ReadLine_l97 n a19 v109 k97) v192 v193 x = some r, ?_, ?_⟩
                · refine And.intro (fun c => ?_) (fun c => ?_)
                  · replace h := cT h c
                    refine And.intro (fun _ => ?_) (fun c => absurd c (by decide))
                    obtain ⟨r274, hr274, h⟩ := bsm h
                    refine callA (c_spec_l17HasTo n v168 _ hr274) ?_
                    refine And.intro (fun _ => ?_) (fun c => absurd c (by decide))
                    exact ⟨r274, h, [], ⟨rfl, rfl, rfl, rfl, rfl, rfl, rfl, trivial⟩, ⟨⟨rfl, rfl, rfl, rfl, trivial⟩, rfl, ⟨rfl, rfl, rfl, rfl, trivial⟩, trivial⟩, rfl⟩
                  · replace h := cF h c
                    refine And.intro (fun c => absurd c (by decide)) (fun _ => ?_)
                    refine And.intro (fun c => absurd c (by decide)) (fun _ => ?_)
                    exact ⟨false, h, [], ⟨rfl, rfl, rfl, rfl, rfl, rfl, rfl, trivial⟩, ⟨⟨rfl, rfl, rfl, rfl, trivial⟩, rfl, ⟨rfl, rfl, rfl, rfl, trivial⟩, trivial⟩, rfl⟩
                · rintro v196 h
                  unfold m_spec_l17ReadLine_j108 at h
                  refine And.intro (fun c => ?_) (fun c => ?_)
                  · replace h := cT h c
                    obtain ⟨x199, hx199, h⟩ := bsm h
                    refine And.intro (ixr hx199) ?_
                    refine Exists.intro _ (And.intro (gz (gm (ixg hx199))) ?_)
                    exact ⟨x199, h, [], ⟨rfl, rfl, rfl, rfl, rfl, trivial⟩, ⟨⟨rfl, rfl, rfl, rfl, trivial⟩, rfl, ⟨rfl, rfl, rfl, rfl, trivial⟩, trivial⟩, rfl⟩
                  · replace h := cF h c
                    exact ⟨0, h, [], ⟨rfl, rfl, rfl, rfl, rfl, trivial⟩, ⟨⟨rfl, rfl, rfl, rfl, trivial⟩, rfl, ⟨rfl, rfl, rfl, rfl, trivial⟩, trivial⟩, rfl⟩
              · rintro v195 h
                unfold m_spec_l17ReadLine_j107 at h
                refine .inl ?_
                obtain ⟨r272, hr272, h⟩ := bsm h
                refine callA (c_spec_l17Line n (gIns.mk v168 v193 v195) _ hr272) ?_
                refine And.intro (fun c => ?_) (fun c => ?_)
                · replace h := cT h c
                  refine .inl ?_
                  replace h := Option.some.inj h
                  subst h
                  exact ⟨[.p ((gIns.mk v168 v193 v195).enc), .p (B true)], [], ⟨[], ⟨rfl, rfl, trivial⟩, trivial, rfl⟩, rfl, rfl, rfl⟩
                · replace h := cF h c
                  exact ⟨(wr .i64 (v168 + 1)), k97, h, Nat.lt_succ_self _, [], ⟨rfl, rfl, rfl, rfl, trivial⟩, ⟨⟨rfl, rfl, rfl, rfl, trivial⟩, rfl, trivial⟩, rfl⟩
          · replace h := cF h c
            exact ⟨(), h, [], ⟨rfl, trivial⟩, ⟨⟨rfl, rfl, rfl, rfl, trivial⟩, trivial⟩, rfl⟩
        · rintro _ h
          unfold m_spec_l17ReadLine_j72 at h
          refine .inl ?_
          replace h := Option.some.inj h
          subst h
          exact ⟨[.p ((gIns.mk 0 0 0).enc), .p (B false)], [], ⟨[], ⟨rfl, rfl, trivial⟩, trivial, rfl⟩, rfl, rfl, rfl⟩
def m_spec_ProgramRead_j8 (n : Nat) (v287 : List gIns) : Option (List gIns × Int × Int) :=
  (m_spec_ProgramOK n v287).bind fun r325 =>
  bif (!r325) then (
    some ([], 10, 0))
  else (
    some (v287, 0, 0))
def m_spec_ProgramRead_j15 (v291 : List gIns) (rec13 : Int → List gIns → Option (List gIns × Int × Int)) (r330 : Int) (r331 : gIns × Bool) (v297 : Bool) : Option (List gIns × Int × Int) :=
  bif v297 then (
    some ([], 2, ((v291.length : Nat) : Int)))
  else (
    gp (v291.length + ([r331.1] : List gIns).length ≤ 68719476736) <|
    rec13 (wr .i64 (r330 + 1)) (v291 ++ [r331.1]))
def m_spec_ProgramRead_l13 (n : Nat) (a20 : ByteArray) : Nat → Int → List gIns → Option (List gIns × Int × Int)
  | 0, _, _ => none
  | k13 + 1, v290, v291 =>
    bif (decide (v290 < (a20.size : Int))) then (
      (m_spec_l03Until n a20 v290 10).bind fun r330 =>
      gp (0 ≤ v290 ∧ v290 ≤ r330 ∧ r330 ≤ (a20.size : Int)) <|
      (m_spec_l17ReadLine n (a20.extract v290.toNat r330.toNat)).bind fun r331 =>
      bif (!r331.2) then (
        m_spec_ProgramRead_j15 v291 (m_spec_ProgramRead_l13 n a20 k13) r330 r331 true)
      else (
        m_spec_ProgramRead_j15 v291 (m_spec_ProgramRead_l13 n a20 k13) r330 r331 (r330 == (a20.size : Int))))
    else (
      m_spec_ProgramRead_j8 n v291)
def m_spec_ProgramRead (n : Nat) (a20 : ByteArray) : Option (List gIns × Int × Int) :=
  bif (decide ((a20.size : Int) > 400000)) then (
    some ([], 1, 0))
  else (
    m_spec_ProgramRead_l13 n a20 n 0 [])
theorem c_spec_ProgramRead (n : Nat) (a20 : ByteArray) (r : List gIns × Int × Int) (h : m_spec_ProgramRead n a20 = some r) : FnP Tryd.prog 10 [S a20] [.lst (r.1.map gIns.enc), I r.2.1, I r.2.2] := by
  unfold m_spec_ProgramRead at h
  refine fn_introJ Tryd.func10 rfl rfl rfl ?_
  refine .inl ?_
  refine .inl ?_
  refine .inl ?_
  refine And.intro (fun c => ?_) (fun c => ?_)
  · replace h := cT h c
    refine .inl ?_
    refine And.intro (show fits _ _ from trivial) ?_
    refine .inl (Exists.intro _ (And.intro (rowN (show [] = [].map gIns.enc by first | (simp; done) | (simp; omega)) (show 0 = ([].map gIns.enc).length by first | (simp; done) | (simp; omega))) ?_))
    replace h := Option.some.inj h
    subst h
    exact ⟨[.p (.lst ([].map gIns.enc)), .p (I 1), .p (I 0)], [], ⟨[], ⟨rfl, rfl, rfl, trivial⟩, trivial, rfl⟩, rfl, rfl, rfl⟩
  · replace h := cF h c
    refine .inl ?_
    refine And.intro (show fits _ _ from trivial) ?_
    refine .inr ⟨List gIns, fun x => ([(5, .row 0 3 0 x.length)], [.row 38 3 (x.map gIns.enc)]), fun x => m_spec_ProgramRead_j8 n x = some r, ?_, ?_⟩
    · refine .inl ?_
      refine ⟨Int × List gIns, fun x => ([(0, .p (S a20)), (5, .row 0 3 0 x.2.length), (6, .p (I x.1))], [.row 38 3 (x.2.map gIns.enc)]), fun x k => m_spec_ProgramRead_l13 n a20 k x.1 x.2 = some r, ⟨(0, []), n, h, [], ⟨rfl, (congrArg (AV.row 0 3 0) (show [].length = 0 by first | (simp; done) | (simp; omega))), rfl, trivial⟩, ⟨(congrArg (Bk.row 38 3) (show [].map gIns.enc = [] by simp)), trivial⟩, rfl⟩, ?_⟩
      rintro ⟨v290, v291⟩ (_ | k13) h
      · exact ns h
      unfold m_spec_ProgramRead_l13 at h
      refine .inl ?_
      refine .inl ?_
      refine And.intro (fun c => ?_) (fun c => ?_)
      · replace h := cT h c
        refine .inl ?_
        obtain ⟨r330, hr330, h⟩ := bsm h
        refine callA (c_spec_l03Until n a20 v290 10 _ hr330) ?_
        refine .inl ?_
        obtain ⟨g12, h⟩ := gpT h
        refine And.intro g12 ?_
        obtain ⟨r331, hr331, h⟩ := bsm h
        refine callA (c_spec_l17ReadLine n (a20.extract v290.toNat r330.toNat) _ hr331) ?_
        refine .inl ?_
        refine .inr ⟨Bool, fun x => ([(0, .p (S a20)), (5, .row 0 3 0 v291.length), (7, .p (I r330)), (8, .ptr 1 0), (37, .p (B x))], [.row 38 3 (v291.map gIns.enc), .box 38 [.p (I r331.1.op_), .p (I r331.1.n_), .p (I r331.1.to_)]]), fun x => m_spec_ProgramRead_j15 v291 (m_spec_ProgramRead_l13 n a20 k13) r330 r331 x = some r, ?_, ?_⟩
        · refine And.intro (fun c => ?_) (fun c => ?_)
          · replace h := cF h c
            refine And.intro (fun _ => ?_) (fun c => absurd c (by decide))
            refine And.intro (fun _ => ?_) (fun c => absurd c (by decide))
            refine And.intro (fun _ => ?_) (fun c => absurd c (by decide))
            refine And.intro (fun c => absurd c (by decide)) (fun _ => ?_)
            exact ⟨(r330 == (a20.size : Int)), h, [], ⟨rfl, rfl, rfl, rfl, rfl, trivial⟩, ⟨rfl, ⟨rfl, rfl, rfl, rfl, trivial⟩, trivial⟩, rfl⟩
          · replace h := cT h c
            refine And.intro (fun c => absurd c (by decide)) (fun _ => ?_)
            refine And.intro (fun c => absurd c (by decide)) (fun _ => ?_)
            refine And.intro (fun c => absurd c (by decide)) (fun _ => ?_)
            refine And.intro (fun _ => ?_) (fun c => absurd c (by decide))
            exact ⟨true, h, [], ⟨rfl, rfl, rfl, rfl, rfl, trivial⟩, ⟨rfl, ⟨rfl, rfl, rfl, rfl, trivial⟩, trivial⟩, rfl⟩
        · rintro v297 h
          unfold m_spec_ProgramRead_j15 at h
          refine And.intro (fun c => ?_) (fun c => ?_)
          · replace h := cT h c
            refine .inl ?_
            refine And.intro (show fits _ _ from trivial) ?_
            refine .inl (Exists.intro _ (And.intro (rowN (show [] = [].map gIns.enc by first | (simp; done) | (simp; omega)) (show 0 = ([].map gIns.enc).length by first | (simp; done) | (simp; omega))) ?_))
            replace h := Option.some.inj h
            subst h
            exact ⟨[.p (.lst ([].map gIns.enc)), .p (I 2), .p (I ((v291.length : Nat) : Int))], [], ⟨[], ⟨rfl, rfl, rfl, trivial⟩, trivial, rfl⟩, rfl, rfl, rfl⟩
          · replace h := cF h c
            refine .inl ?_
            refine And.intro (show fits _ _ from ⟨⟨rfl, rfl⟩, trivial⟩) ?_
            obtain ⟨g11, h⟩ := gpT h
            refine Exists.intro ([r331.1.enc]) (And.intro (rowN rfl rfl) ?_)
            refine Exists.intro (v291.map gIns.enc) (And.intro (rowX (rowN rfl (show v291.length = (v291.map gIns.enc).length by first | (simp; done) | (simp; omega))) (show fits _ _ from ⟨⟨rfl, rfl⟩, trivial⟩) (appfitJ (by first | simpa using g11 | (simp at g11 ⊢; omega)) rfl)) ?_)
            exact ⟨((wr .i64 (r330 + 1)), (v291 ++ [r331.1])), k13, h, Nat.lt_succ_self _, [], ⟨rfl, (congrArg (AV.row 0 3 0) (show (v291 ++ [r331.1]).length = (v291.length + ([r331.1.enc] : List PV).length) by first | (simp; done) | (simp; omega))), rfl, trivial⟩, ⟨(congrArg (Bk.row 38 3) (show (v291 ++ [r331.1]).map gIns.enc = (v291.map gIns.enc) ++ [r331.1.enc] by simp)), trivial⟩, rfl⟩
      · replace h := cF h c
        exact ⟨v291, h, [], ⟨rfl, trivial⟩, ⟨rfl, trivial⟩, rfl⟩
    · rintro v287 h
      unfold m_spec_ProgramRead_j8 at h
      refine .inl ?_
      refine .inl ?_
      obtain ⟨r325, hr325, h⟩ := bsm h
      refine callV (c_spec_ProgramOK n v287 _ hr325) rfl (fun K hk => Exists.intro _ (And.intro (rowN rfl (show v287.length = (v287.map gIns.enc).length by first | (simp; done) | (simp; omega))) hk)) ?_
      refine And.intro (fun c => ?_) (fun c => ?_)
      · replace h := cT h c
        refine .inl ?_
        refine And.intro (show fits _ _ from trivial) ?_
        refine .inl (Exists.intro _ (And.intro (rowN (show [] = [].map gIns.enc by first | (simp; done) | (simp; omega)) (show 0 = ([].map gIns.enc).length by first | (simp; done) | (simp; omega))) ?_))
        replace h := Option.some.inj h
        subst h
        exact ⟨[.p (.lst ([].map gIns.enc)), .p (I 10), .p (I 0)], [], ⟨[], ⟨rfl, rfl, rfl, trivial⟩, trivial, rfl⟩, rfl, rfl, rfl⟩
      · replace h := cF h c
        refine .inl ?_
        refine .inl (Exists.intro _ (And.intro (rowN rfl (show v287.length = (v287.map gIns.enc).length by first | (simp; done) | (simp; omega))) ?_))
        replace h := Option.some.inj h
        subst h
        exact ⟨[.p (.lst (v287.map gIns.enc)), .p (I 0), .p (I 0)], [], ⟨[], ⟨rfl, rfl, rfl, trivial⟩, trivial, rfl⟩, rfl, rfl, rfl⟩
def m_impl_ifs (n : Nat) (a21 : Int) : Option Bool :=
  bif (a21 == 6) then (
    some true)
  else (
    bif (a21 == 7) then (
      some true)
    else (
      some (a21 == 8)))
theorem c_impl_ifs (n : Nat) (a21 : Int) (r : Bool) (h : m_impl_ifs n a21 = some r) : FnP Tryd.prog 40 [I a21] [B r] := by
  unfold m_impl_ifs at h
  refine fn_introJ Tryd.func40 rfl rfl rfl ?_
  refine .inl ?_
  refine .inl ?_
  refine And.intro (fun c => ?_) (fun c => ?_)
  · replace h := cF h c
    refine And.intro (fun _ => ?_) (fun c => absurd c (by decide))
    refine And.intro (fun c => absurd c (by decide)) (fun _ => ?_)
    refine And.intro (fun c => ?_) (fun c => ?_)
    · replace h := cF h c
      refine And.intro (fun _ => ?_) (fun c => absurd c (by decide))
      refine And.intro (fun c => absurd c (by decide)) (fun _ => ?_)
      replace h := Option.some.inj h
      subst h
      exact ⟨[.p (B (a21 == 8))], [], ⟨[], ⟨rfl, trivial⟩, trivial, rfl⟩, rfl, rfl, rfl⟩
    · replace h := cT h c
      refine And.intro (fun c => absurd c (by decide)) (fun _ => ?_)
      refine And.intro (fun _ => ?_) (fun c => absurd c (by decide))
      replace h := Option.some.inj h
      subst h
      exact ⟨[.p (B true)], [], ⟨[], ⟨rfl, trivial⟩, trivial, rfl⟩, rfl, rfl, rfl⟩
  · replace h := cT h c
    refine And.intro (fun c => absurd c (by decide)) (fun _ => ?_)
    refine And.intro (fun _ => ?_) (fun c => absurd c (by decide))
    refine And.intro (fun c => absurd c (by decide)) (fun _ => ?_)
    refine And.intro (fun c => absurd c (by decide)) (fun _ => ?_)
    refine And.intro (fun _ => ?_) (fun c => absurd c (by decide))
    replace h := Option.some.inj h
    subst h
    exact ⟨[.p (B true)], [], ⟨[], ⟨rfl, trivial⟩, trivial, rfl⟩, rfl, rfl, rfl⟩
def m_impl_jumps (n : Nat) (a22 : Int) : Option Bool :=
  bif (a22 == 5) then (
    some true)
  else (
    (m_impl_ifs n a22).bind fun r332 =>
    some r332)
theorem c_impl_jumps (n : Nat) (a22 : Int) (r : Bool) (h : m_impl_jumps n a22 = some r) : FnP Tryd.prog 22 [I a22] [B r] := by
  unfold m_impl_jumps at h
  refine fn_introJ Tryd.func22 rfl rfl rfl ?_
  refine .inl ?_
  refine .inl ?_
  refine And.intro (fun c => ?_) (fun c => ?_)
  · replace h := cF h c
    refine And.intro (fun _ => ?_) (fun c => absurd c (by decide))
    obtain ⟨r332, hr332, h⟩ := bsm h
    refine callA (c_impl_ifs n a22 _ hr332) ?_
    refine And.intro (fun c => absurd c (by decide)) (fun _ => ?_)
    replace h := Option.some.inj h
    subst h
    exact ⟨[.p (B r332)], [], ⟨[], ⟨rfl, trivial⟩, trivial, rfl⟩, rfl, rfl, rfl⟩
  · replace h := cT h c
    refine And.intro (fun c => absurd c (by decide)) (fun _ => ?_)
    refine And.intro (fun _ => ?_) (fun c => absurd c (by decide))
    replace h := Option.some.inj h
    subst h
    exact ⟨[.p (B true)], [], ⟨[], ⟨rfl, trivial⟩, trivial, rfl⟩, rfl, rfl, rfl⟩
def m_impl_insOK_j3 (a23 : gIns) (v299 : Bool) : Option Bool :=
  bif v299 then (
    some (a23.n_ == 0))
  else (
    bif (a23.op_ == 10) then (
      bif (a23.n_ == 2) then (
        some true)
      else (
        some (a23.n_ == 4)))
    else (
      bif (decide (a23.n_ ≥ 0)) then (
        some (decide (a23.n_ ≤ 1000)))
      else (
        some false)))
def m_impl_insOK_j1 (a23 : gIns) : Option Bool :=
  bif (a23.op_ == 4) then (
    m_impl_insOK_j3 a23 true)
  else (
    bif (a23.op_ == 5) then (
      m_impl_insOK_j3 a23 true)
    else (
      bif (a23.op_ == 7) then (
        m_impl_insOK_j3 a23 true)
      else (
        m_impl_insOK_j3 a23 (a23.op_ == 9))))
def m_impl_insOK (n : Nat) (a23 : gIns) (a24 : Int) : Option Bool :=
  bif (decide (a23.op_ < 1)) then (
    some false)
  else (
    bif (decide (a23.op_ > 10)) then (
      some false)
    else (
      (m_impl_jumps n a23.op_).bind fun r334 =>
      bif r334 then (
        bif (decide (a23.to_ < 0)) then (
          some false)
        else (
          bif (decide (a23.to_ ≥ a24)) then (
            some false)
          else (
            m_impl_insOK_j1 a23)))
      else (
        bif (a23.to_ != 0) then (
          some false)
        else (
          m_impl_insOK_j1 a23))))
theorem c_impl_insOK (n : Nat) (a23 : gIns) (a24 : Int) (r : Bool) (h : m_impl_insOK n a23 a24 = some r) : FnP Tryd.prog 37 [a23.enc, I a24] [B r] := by
  unfold m_impl_insOK at h
  refine fn_introJ Tryd.func37 rfl rfl rfl ?_
  refine .inl ?_
  refine .inl ?_
  refine .inl ?_
  refine And.intro (fun c => ?_) (fun c => ?_)
  · replace h := cF h c
    refine And.intro (fun _ => ?_) (fun c => absurd c (by decide))
    refine And.intro (fun _ => ?_) (fun c => absurd c (by decide))
    refine And.intro (fun c => absurd c (by decide)) (fun _ => ?_)
    refine And.intro (fun c => ?_) (fun c => ?_)
    · replace h := cT h c
      refine .inl ?_
      replace h := Option.some.inj h
      subst h
      exact ⟨[.p (B false)], [], ⟨[], ⟨rfl, trivial⟩, trivial, rfl⟩, rfl, rfl, rfl⟩
    · replace h := cF h c
      refine .inr ⟨Unit, fun x => ([(2, .ptr 0 0)], [.box 38 [.p (I a23.op_), .p (I a23.n_), .p (I a23.to_)]]), fun x => m_impl_insOK_j1 a23 = some r, ?_, ?_⟩
      · refine .inl ?_
        obtain ⟨r334, hr334, h⟩ := bsm h
        refine callA (c_impl_jumps n a23.op_ _ hr334) ?_
        refine And.intro (fun c => ?_) (fun c => ?_)
        · replace h := cT h c
          refine .inl ?_
          refine And.intro (fun c => ?_) (fun c => ?_)
          · replace h := cF h c
            refine And.intro (fun _ => ?_) (fun c => absurd c (by decide))
            refine And.intro (fun _ => ?_) (fun c => absurd c (by decide))
            refine And.intro (fun _ => ?_) (fun c => absurd c (by decide))
            refine And.intro (fun c => absurd c (by decide)) (fun _ => ?_)
            refine And.intro (fun c => ?_) (fun c => ?_)
            · replace h := cT h c
              refine .inl ?_
              replace h := Option.some.inj h
              subst h
              exact ⟨[.p (B false)], [], ⟨[], ⟨rfl, trivial⟩, trivial, rfl⟩, rfl, rfl, rfl⟩
            · replace h := cF h c
              exact ⟨(), h, [], ⟨rfl, trivial⟩, ⟨⟨rfl, rfl, rfl, rfl, trivial⟩, trivial⟩, rfl⟩
          · replace h := cT h c
            refine And.intro (fun c => absurd c (by decide)) (fun _ => ?_)
            refine And.intro (fun c => absurd c (by decide)) (fun _ => ?_)
            refine And.intro (fun c => absurd c (by decide)) (fun _ => ?_)
            refine And.intro (fun _ => ?_) (fun c => absurd c (by decide))
            refine And.intro (fun _ => ?_) (fun c => absurd c (by decide))
            refine .inl ?_
            replace h := Option.some.inj h
            subst h
            exact ⟨[.p (B false)], [], ⟨[], ⟨rfl, trivial⟩, trivial, rfl⟩, rfl, rfl, rfl⟩
        · replace h := cF h c
          refine .inl ?_
          refine And.intro (fun c => ?_) (fun c => ?_)
          · replace h := cT h c
            refine .inl ?_
            replace h := Option.some.inj h
            subst h
            exact ⟨[.p (B false)], [], ⟨[], ⟨rfl, trivial⟩, trivial, rfl⟩, rfl, rfl, rfl⟩
          · replace h := cF h c
            exact ⟨(), h, [], ⟨rfl, trivial⟩, ⟨⟨rfl, rfl, rfl, rfl, trivial⟩, trivial⟩, rfl⟩
      · rintro _ h
        unfold m_impl_insOK_j1 at h
        refine .inl ?_
        refine .inl ?_
        refine .inr ⟨Bool, fun x => ([(2, .ptr 0 0), (29, .p (I a23.op_)), (30, .p (B x))], [.box 38 [.p (I a23.op_), .p (I a23.n_), .p (I a23.to_)]]), fun x => m_impl_insOK_j3 a23 x = some r, ?_, ?_⟩
        · refine .inl ?_
          refine And.intro (fun c => ?_) (fun c => ?_)
          · replace h := cT h c
            exact ⟨true, h, [], ⟨rfl, rfl, rfl, trivial⟩, ⟨⟨rfl, rfl, rfl, rfl, trivial⟩, trivial⟩, rfl⟩
          · replace h := cF h c
            refine .inl ?_
            refine And.intro (fun c => ?_) (fun c => ?_)
            · replace h := cT h c
              exact ⟨true, h, [], ⟨rfl, rfl, rfl, trivial⟩, ⟨⟨rfl, rfl, rfl, rfl, trivial⟩, trivial⟩, rfl⟩
            · replace h := cF h c
              refine .inl ?_
              refine And.intro (fun c => ?_) (fun c => ?_)
              · replace h := cT h c
                exact ⟨true, h, [], ⟨rfl, rfl, rfl, trivial⟩, ⟨⟨rfl, rfl, rfl, rfl, trivial⟩, trivial⟩, rfl⟩
              · replace h := cF h c
                exact ⟨(a23.op_ == 9), h, [], ⟨rfl, rfl, rfl, trivial⟩, ⟨⟨rfl, rfl, rfl, rfl, trivial⟩, trivial⟩, rfl⟩
        · rintro v299 h
          unfold m_impl_insOK_j3 at h
          refine And.intro (fun c => ?_) (fun c => ?_)
          · replace h := cT h c
            refine .inl ?_
            replace h := Option.some.inj h
            subst h
            exact ⟨[.p (B (a23.n_ == 0))], [], ⟨[], ⟨rfl, trivial⟩, trivial, rfl⟩, rfl, rfl, rfl⟩
          · replace h := cF h c
            refine .inl ?_
            refine And.intro (fun c => ?_) (fun c => ?_)
            · replace h := cT h c
              refine .inl ?_
              refine And.intro (fun c => ?_) (fun c => ?_)
              · replace h := cF h c
                refine And.intro (fun _ => ?_) (fun c => absurd c (by decide))
                refine And.intro (fun _ => ?_) (fun c => absurd c (by decide))
                refine And.intro (fun c => absurd c (by decide)) (fun _ => ?_)
                replace h := Option.some.inj h
                subst h
                exact ⟨[.p (B (a23.n_ == 4))], [], ⟨[], ⟨rfl, trivial⟩, trivial, rfl⟩, rfl, rfl, rfl⟩
              · replace h := cT h c
                refine And.intro (fun c => absurd c (by decide)) (fun _ => ?_)
                refine And.intro (fun c => absurd c (by decide)) (fun _ => ?_)
                refine And.intro (fun _ => ?_) (fun c => absurd c (by decide))
                replace h := Option.some.inj h
                subst h
                exact ⟨[.p (B true)], [], ⟨[], ⟨rfl, trivial⟩, trivial, rfl⟩, rfl, rfl, rfl⟩
            · replace h := cF h c
              refine .inl ?_
              refine And.intro (fun c => ?_) (fun c => ?_)
              · replace h := cT h c
                refine And.intro (fun _ => ?_) (fun c => absurd c (by decide))
                refine And.intro (fun _ => ?_) (fun c => absurd c (by decide))
                refine And.intro (fun _ => ?_) (fun c => absurd c (by decide))
                replace h := Option.some.inj h
                subst h
                exact ⟨[.p (B (decide (a23.n_ ≤ 1000)))], [], ⟨[], ⟨rfl, trivial⟩, trivial, rfl⟩, rfl, rfl, rfl⟩
              · replace h := cF h c
                refine And.intro (fun c => absurd c (by decide)) (fun _ => ?_)
                refine And.intro (fun c => absurd c (by decide)) (fun _ => ?_)
                refine And.intro (fun c => absurd c (by decide)) (fun _ => ?_)
                replace h := Option.some.inj h
                subst h
                exact ⟨[.p (B false)], [], ⟨[], ⟨rfl, trivial⟩, trivial, rfl⟩, rfl, rfl, rfl⟩
  · replace h := cT h c
    refine And.intro (fun c => absurd c (by decide)) (fun _ => ?_)
    refine And.intro (fun c => absurd c (by decide)) (fun _ => ?_)
    refine And.intro (fun _ => ?_) (fun c => absurd c (by decide))
    refine And.intro (fun _ => ?_) (fun c => absurd c (by decide))
    refine .inl ?_
    replace h := Option.some.inj h
    subst h
    exact ⟨[.p (B false)], [], ⟨[], ⟨rfl, trivial⟩, trivial, rfl⟩, rfl, rfl, rfl⟩
def m_impl_ProgramOK_j2 (a25 : List gIns) : Option Bool :=
  (ix a25 (wr .i64 (((a25.map gIns.enc).length : Int) - 1))).bind fun x318 =>
  bif (x318.op_ == 5) then (
    some true)
  else (
    bif (x318.op_ == 9) then (
      some true)
    else (
      some (x318.op_ == 10)))
def m_impl_ProgramOK_l3 (n : Nat) (a25 : List gIns) : Nat → Int → Option Bool
  | 0, _ => none
  | k3 + 1, v302 =>
    bif (decide (v302 < ((a25.map gIns.enc).length : Int))) then (
      (ix a25 v302).bind fun x321 =>
      (m_impl_insOK n x321 ((a25.map gIns.enc).length : Int)).bind fun r340 =>
      bif (!r340) then (
        some false)
      else (
        (m_impl_ProgramOK_l3 n a25 k3) (wr .i64 (v302 + 1))))
    else (
      m_impl_ProgramOK_j2 a25)
def m_impl_ProgramOK (n : Nat) (a25 : List gIns) : Option Bool :=
  bif (decide (((a25.map gIns.enc).length : Int) < 1)) then (
    some false)
  else (
    bif (decide (((a25.map gIns.enc).length : Int) > 50000)) then (
      some false)
    else (
      m_impl_ProgramOK_l3 n a25 n 0))
theorem c_impl_ProgramOK (n : Nat) (a25 : List gIns) (r : Bool) (h : m_impl_ProgramOK n a25 = some r) : FnP Tryd.prog 17 [.lst (a25.map gIns.enc)] [B r] := by
  unfold m_impl_ProgramOK at h
  refine fn_introJ Tryd.func17 rfl rfl rfl ?_
  refine .inl ?_
  refine .inl ?_
  refine .inl ?_
  refine And.intro (fun c => ?_) (fun c => ?_)
  · replace h := cF h c
    refine And.intro (fun _ => ?_) (fun c => absurd c (by decide))
    refine And.intro (fun _ => ?_) (fun c => absurd c (by decide))
    refine And.intro (fun c => absurd c (by decide)) (fun _ => ?_)
    refine And.intro (fun c => ?_) (fun c => ?_)
    · replace h := cT h c
      refine .inl ?_
      replace h := Option.some.inj h
      subst h
      exact ⟨[.p (B false)], [], ⟨[], ⟨rfl, trivial⟩, trivial, rfl⟩, rfl, rfl, rfl⟩
    · replace h := cF h c
      refine .inr ⟨Unit, fun x => ([(0, .p (.lst (a25.map gIns.enc)))], []), fun x => m_impl_ProgramOK_j2 a25 = some r, ?_, ?_⟩
      · refine .inl ?_
        refine ⟨Int, fun x => ([(0, .p (.lst (a25.map gIns.enc))), (14, .p (.lst (a25.map gIns.enc))), (15, .p (I ((a25.map gIns.enc).length : Int))), (16, .p (I x))], []), fun x k => m_impl_ProgramOK_l3 n a25 k x = some r, ⟨0, n, h, [], ⟨rfl, rfl, rfl, rfl, trivial⟩, trivial, rfl⟩, ?_⟩
        rintro v302 (_ | k3) h
        · exact ns h
        unfold m_impl_ProgramOK_l3 at h
        refine .inl ?_
        refine .inl ?_
        refine And.intro (fun c => ?_) (fun c => ?_)
        · replace h := cT h c
          refine .inl ?_
          refine .inl ?_
          obtain ⟨x321, hx321, h⟩ := bsm h
          refine And.intro (ix0 hx321) (Exists.intro _ (And.intro (gm (ixg hx321)) (And.intro rfl ?_)))
          refine .inl ?_
          obtain ⟨r340, hr340, h⟩ := bsm h
          refine callA (c_impl_insOK n x321 ((a25.map gIns.enc).length : Int) _ hr340) ?_
          refine And.intro (fun c => ?_) (fun c => ?_)
          · replace h := cT h c
            refine .inl ?_
            replace h := Option.some.inj h
            subst h
            exact ⟨[.p (B false)], [], ⟨[], ⟨rfl, trivial⟩, trivial, rfl⟩, rfl, rfl, rfl⟩
          · replace h := cF h c
            exact ⟨(wr .i64 (v302 + 1)), k3, h, Nat.lt_succ_self _, [], ⟨rfl, rfl, rfl, rfl, trivial⟩, trivial, rfl⟩
        · replace h := cF h c
          exact ⟨(), h, [], ⟨rfl, trivial⟩, trivial, rfl⟩
      · rintro _ h
        unfold m_impl_ProgramOK_j2 at h
        refine .inl ?_
        obtain ⟨x318, hx318, h⟩ := bsm h
        refine And.intro (ix0 hx318) (Exists.intro _ (And.intro (gm (ixg hx318)) (And.intro rfl ?_)))
        refine .inl ?_
        refine And.intro (fun c => ?_) (fun c => ?_)
        · replace h := cF h c
          refine And.intro (fun _ => ?_) (fun c => absurd c (by decide))
          refine And.intro (fun c => absurd c (by decide)) (fun _ => ?_)
          refine And.intro (fun c => ?_) (fun c => ?_)
          · replace h := cF h c
            refine And.intro (fun _ => ?_) (fun c => absurd c (by decide))
            refine And.intro (fun c => absurd c (by decide)) (fun _ => ?_)
            replace h := Option.some.inj h
            subst h
            exact ⟨[.p (B (x318.op_ == 10))], [], ⟨[], ⟨rfl, trivial⟩, trivial, rfl⟩, rfl, rfl, rfl⟩
          · replace h := cT h c
            refine And.intro (fun c => absurd c (by decide)) (fun _ => ?_)
            refine And.intro (fun _ => ?_) (fun c => absurd c (by decide))
            replace h := Option.some.inj h
            subst h
            exact ⟨[.p (B true)], [], ⟨[], ⟨rfl, trivial⟩, trivial, rfl⟩, rfl, rfl, rfl⟩
        · replace h := cT h c
          refine And.intro (fun c => absurd c (by decide)) (fun _ => ?_)
          refine And.intro (fun _ => ?_) (fun c => absurd c (by decide))
          refine And.intro (fun c => absurd c (by decide)) (fun _ => ?_)
          refine And.intro (fun c => absurd c (by decide)) (fun _ => ?_)
          refine And.intro (fun _ => ?_) (fun c => absurd c (by decide))
          replace h := Option.some.inj h
          subst h
          exact ⟨[.p (B true)], [], ⟨[], ⟨rfl, trivial⟩, trivial, rfl⟩, rfl, rfl, rfl⟩
  · replace h := cT h c
    refine And.intro (fun c => absurd c (by decide)) (fun _ => ?_)
    refine And.intro (fun c => absurd c (by decide)) (fun _ => ?_)
    refine And.intro (fun _ => ?_) (fun c => absurd c (by decide))
    refine And.intro (fun _ => ?_) (fun c => absurd c (by decide))
    refine .inl ?_
    replace h := Option.some.inj h
    subst h
    exact ⟨[.p (B false)], [], ⟨[], ⟨rfl, trivial⟩, trivial, rfl⟩, rfl, rfl, rfl⟩
def m_impl_insWords (n : Nat) : Option (List ByteArray) :=
  some ([⟨#[]⟩, ⟨#[112, 117, 115, 104]⟩, ⟨#[100, 114, 111, 112]⟩, ⟨#[116, 101, 108, 108]⟩, ⟨#[112, 97, 115, 115]⟩, ⟨#[106, 117, 109, 112]⟩, ⟨#[105, 102, 110, 101, 120, 116]⟩, ⟨#[105, 102, 101, 110, 100]⟩, ⟨#[105, 102, 116, 111, 112]⟩, ⟨#[100, 111, 110, 101]⟩, ⟨#[102, 97, 105, 108]⟩] : List ByteArray)
theorem c_impl_insWords (n : Nat) (r : List ByteArray) (h : m_impl_insWords n = some r) : FnP Tryd.prog 19 [] [.lst (r.map S)] := by
  unfold m_impl_insWords at h
  refine fn_introJ Tryd.func19 rfl rfl rfl ?_
  refine .inl ?_
  refine .inl ?_
  refine And.intro (show fits _ _ from ⟨⟨rfl, rfl⟩, ⟨⟨rfl, rfl⟩, ⟨⟨rfl, rfl⟩, ⟨⟨rfl, rfl⟩, ⟨⟨rfl, rfl⟩, ⟨⟨rfl, rfl⟩, ⟨⟨rfl, rfl⟩, ⟨⟨rfl, rfl⟩, ⟨⟨rfl, rfl⟩, ⟨⟨rfl, rfl⟩, ⟨⟨rfl, rfl⟩, trivial⟩⟩⟩⟩⟩⟩⟩⟩⟩⟩⟩) ?_
  refine .inl (Exists.intro _ (And.intro (rowN (show [S ⟨#[]⟩, S ⟨#[112, 117, 115, 104]⟩, S ⟨#[100, 114, 111, 112]⟩, S ⟨#[116, 101, 108, 108]⟩, S ⟨#[112, 97, 115, 115]⟩, S ⟨#[106, 117, 109, 112]⟩, S ⟨#[105, 102, 110, 101, 120, 116]⟩, S ⟨#[105, 102, 101, 110, 100]⟩, S ⟨#[105, 102, 116, 111, 112]⟩, S ⟨#[100, 111, 110, 101]⟩, S ⟨#[102, 97, 105, 108]⟩] = ([⟨#[]⟩, ⟨#[112, 117, 115, 104]⟩, ⟨#[100, 114, 111, 112]⟩, ⟨#[116, 101, 108, 108]⟩, ⟨#[112, 97, 115, 115]⟩, ⟨#[106, 117, 109, 112]⟩, ⟨#[105, 102, 110, 101, 120, 116]⟩, ⟨#[105, 102, 101, 110, 100]⟩, ⟨#[105, 102, 116, 111, 112]⟩, ⟨#[100, 111, 110, 101]⟩, ⟨#[102, 97, 105, 108]⟩] : List ByteArray).map S by first | (simp; done) | (simp; omega)) (show 11 = (([⟨#[]⟩, ⟨#[112, 117, 115, 104]⟩, ⟨#[100, 114, 111, 112]⟩, ⟨#[116, 101, 108, 108]⟩, ⟨#[112, 97, 115, 115]⟩, ⟨#[106, 117, 109, 112]⟩, ⟨#[105, 102, 110, 101, 120, 116]⟩, ⟨#[105, 102, 101, 110, 100]⟩, ⟨#[105, 102, 116, 111, 112]⟩, ⟨#[100, 111, 110, 101]⟩, ⟨#[102, 97, 105, 108]⟩] : List ByteArray).map S).length by first | (simp; done) | (simp; omega))) ?_))
  replace h := Option.some.inj h
  subst h
  exact ⟨[.p (.lst (([⟨#[]⟩, ⟨#[112, 117, 115, 104]⟩, ⟨#[100, 114, 111, 112]⟩, ⟨#[116, 101, 108, 108]⟩, ⟨#[112, 97, 115, 115]⟩, ⟨#[106, 117, 109, 112]⟩, ⟨#[105, 102, 110, 101, 120, 116]⟩, ⟨#[105, 102, 101, 110, 100]⟩, ⟨#[105, 102, 116, 111, 112]⟩, ⟨#[100, 111, 110, 101]⟩, ⟨#[102, 97, 105, 108]⟩] : List ByteArray).map S))], [], ⟨[], ⟨rfl, trivial⟩, trivial, rfl⟩, rfl, rfl, rfl⟩
def m_impl_hasN (n : Nat) (a26 : Int) : Option Bool :=
  bif (decide (a26 ≤ 3)) then (
    some true)
  else (
    bif (a26 == 6) then (
      some true)
    else (
      bif (a26 == 8) then (
        some true)
      else (
        some (a26 == 10))))
theorem c_impl_hasN (n : Nat) (a26 : Int) (r : Bool) (h : m_impl_hasN n a26 = some r) : FnP Tryd.prog 20 [I a26] [B r] := by
  unfold m_impl_hasN at h
  refine fn_introJ Tryd.func20 rfl rfl rfl ?_
  refine .inl ?_
  refine .inl ?_
  refine And.intro (fun c => ?_) (fun c => ?_)
  · replace h := cF h c
    refine And.intro (fun _ => ?_) (fun c => absurd c (by decide))
    refine And.intro (fun c => absurd c (by decide)) (fun _ => ?_)
    refine And.intro (fun c => ?_) (fun c => ?_)
    · replace h := cF h c
      refine And.intro (fun _ => ?_) (fun c => absurd c (by decide))
      refine And.intro (fun c => absurd c (by decide)) (fun _ => ?_)
      refine And.intro (fun c => ?_) (fun c => ?_)
      · replace h := cF h c
        refine And.intro (fun _ => ?_) (fun c => absurd c (by decide))
        refine And.intro (fun c => absurd c (by decide)) (fun _ => ?_)
        replace h := Option.some.inj h
        subst h
        exact ⟨[.p (B (a26 == 10))], [], ⟨[], ⟨rfl, trivial⟩, trivial, rfl⟩, rfl, rfl, rfl⟩
      · replace h := cT h c
        refine And.intro (fun c => absurd c (by decide)) (fun _ => ?_)
        refine And.intro (fun _ => ?_) (fun c => absurd c (by decide))
        replace h := Option.some.inj h
        subst h
        exact ⟨[.p (B true)], [], ⟨[], ⟨rfl, trivial⟩, trivial, rfl⟩, rfl, rfl, rfl⟩
    · replace h := cT h c
      refine And.intro (fun c => absurd c (by decide)) (fun _ => ?_)
      refine And.intro (fun _ => ?_) (fun c => absurd c (by decide))
      refine And.intro (fun c => absurd c (by decide)) (fun _ => ?_)
      refine And.intro (fun c => absurd c (by decide)) (fun _ => ?_)
      refine And.intro (fun _ => ?_) (fun c => absurd c (by decide))
      replace h := Option.some.inj h
      subst h
      exact ⟨[.p (B true)], [], ⟨[], ⟨rfl, trivial⟩, trivial, rfl⟩, rfl, rfl, rfl⟩
  · replace h := cT h c
    refine And.intro (fun c => absurd c (by decide)) (fun _ => ?_)
    refine And.intro (fun _ => ?_) (fun c => absurd c (by decide))
    refine And.intro (fun c => absurd c (by decide)) (fun _ => ?_)
    refine And.intro (fun c => absurd c (by decide)) (fun _ => ?_)
    refine And.intro (fun _ => ?_) (fun c => absurd c (by decide))
    refine And.intro (fun c => absurd c (by decide)) (fun _ => ?_)
    refine And.intro (fun c => absurd c (by decide)) (fun _ => ?_)
    refine And.intro (fun _ => ?_) (fun c => absurd c (by decide))
    replace h := Option.some.inj h
    subst h
    exact ⟨[.p (B true)], [], ⟨[], ⟨rfl, trivial⟩, trivial, rfl⟩, rfl, rfl, rfl⟩
def m_impl_isDigit (n : Nat) (a27 : Int) : Option Bool :=
  bif (decide (a27 ≥ 48)) then (
    some (decide (a27 ≤ 57)))
  else (
    some false)
theorem c_impl_isDigit (n : Nat) (a27 : Int) (r : Bool) (h : m_impl_isDigit n a27 = some r) : FnP Tryd.prog 50 [.raw (.int .u8 a27)] [B r] := by
  unfold m_impl_isDigit at h
  refine fn_introJ Tryd.func50 rfl rfl rfl ?_
  refine .inl ?_
  refine .inl ?_
  refine And.intro (fun c => ?_) (fun c => ?_)
  · replace h := cT h c
    refine And.intro (fun _ => ?_) (fun c => absurd c (by decide))
    refine And.intro (fun _ => ?_) (fun c => absurd c (by decide))
    replace h := Option.some.inj h
    subst h
    exact ⟨[.p (B (decide (a27 ≤ 57)))], [], ⟨[], ⟨rfl, trivial⟩, trivial, rfl⟩, rfl, rfl, rfl⟩
  · replace h := cF h c
    refine And.intro (fun c => absurd c (by decide)) (fun _ => ?_)
    refine And.intro (fun c => absurd c (by decide)) (fun _ => ?_)
    replace h := Option.some.inj h
    subst h
    exact ⟨[.p (B false)], [], ⟨[], ⟨rfl, trivial⟩, trivial, rfl⟩, rfl, rfl, rfl⟩
def m_impl_decimal_j4 (v310 : Int) : Option (Int × Bool) :=
  some (v310, true)
def m_impl_decimal_l5 (n : Nat) (a28 : ByteArray) : Nat → Int → Int → Option (Int × Bool)
  | 0, _, _ => none
  | k5 + 1, v311, v312 =>
    bif (decide (v312 < (a28.size : Int))) then (
      gp (0 ≤ v312 ∧ v312 < (a28.size : Int)) <|
      (m_impl_isDigit n (bt a28 v312)).bind fun r346 =>
      bif (!r346) then (
        some (0, false))
      else (
        gp (0 ≤ v312 ∧ v312 < (a28.size : Int)) <|
        (m_impl_decimal_l5 n a28 k5) (wr .i64 ((wr .i64 (v311 * 10)) + (wr .i64 (wr .u8 ((bt a28 v312) - 48))))) (wr .i64 (v312 + 1))))
    else (
      m_impl_decimal_j4 v311)
def m_impl_decimal_j2 (n : Nat) (a28 : ByteArray) (v305 : Bool) : Option (Int × Bool) :=
  bif v305 then (
    some (0, false))
  else (
    m_impl_decimal_l5 n a28 n 0 0)
def m_impl_decimal (n : Nat) (a28 : ByteArray) : Option (Int × Bool) :=
  bif (decide ((a28.size : Int) < 1)) then (
    m_impl_decimal_j2 n a28 true)
  else (
    bif (decide ((a28.size : Int) > 6)) then (
      m_impl_decimal_j2 n a28 true)
    else (
      bif (decide ((a28.size : Int) > 1)) then (
        gp (0 ≤ (0 : Int) ∧ (0 : Int) < (a28.size : Int)) <|
        m_impl_decimal_j2 n a28 ((bt a28 0) == 48))
      else (
        m_impl_decimal_j2 n a28 false)))
theorem c_impl_decimal (n : Nat) (a28 : ByteArray) (r : Int × Bool) (h : m_impl_decimal n a28 = some r) : FnP Tryd.prog 45 [S a28] [I r.1, B r.2] := by
  unfold m_impl_decimal at h
  refine fn_introJ Tryd.func45 rfl rfl rfl ?_
  refine .inl ?_
  refine .inl ?_
  refine .inr ⟨Bool, fun x => ([(0, .p (S a28)), (23, .p (B x))], []), fun x => m_impl_decimal_j2 n a28 x = some r, ?_, ?_⟩
  · refine And.intro (fun c => ?_) (fun c => ?_)
    · replace h := cF h c
      refine And.intro (fun _ => ?_) (fun c => absurd c (by decide))
      refine And.intro (fun _ => ?_) (fun c => absurd c (by decide))
      refine And.intro (fun c => absurd c (by decide)) (fun _ => ?_)
      refine And.intro (fun c => ?_) (fun c => ?_)
      · replace h := cF h c
        refine And.intro (fun _ => ?_) (fun c => absurd c (by decide))
        refine And.intro (fun _ => ?_) (fun c => absurd c (by decide))
        refine And.intro (fun _ => ?_) (fun c => absurd c (by decide))
        refine And.intro (fun c => ?_) (fun c => ?_)
        · replace h := cT h c
          refine And.intro (fun _ => ?_) (fun c => absurd c (by decide))
          obtain ⟨g16, h⟩ := gpT h
          refine And.intro g16 ?_
          refine And.intro (fun _ => ?_) (fun c => absurd c (by decide))
          refine And.intro (fun _ => ?_) (fun c => absurd c (by decide))
          refine And.intro (fun _ => ?_) (fun c => absurd c (by decide))
          refine And.intro (fun c => absurd c (by decide)) (fun _ => ?_)
          exact ⟨((bt a28 0) == 48), h, [], ⟨rfl, rfl, trivial⟩, trivial, rfl⟩
        · replace h := cF h c
          refine And.intro (fun c => absurd c (by decide)) (fun _ => ?_)
          refine And.intro (fun c => absurd c (by decide)) (fun _ => ?_)
          refine And.intro (fun _ => ?_) (fun c => absurd c (by decide))
          refine And.intro (fun c => absurd c (by decide)) (fun _ => ?_)
          refine And.intro (fun c => absurd c (by decide)) (fun _ => ?_)
          exact ⟨false, h, [], ⟨rfl, rfl, trivial⟩, trivial, rfl⟩
      · replace h := cT h c
        refine And.intro (fun c => absurd c (by decide)) (fun _ => ?_)
        refine And.intro (fun c => absurd c (by decide)) (fun _ => ?_)
        refine And.intro (fun c => absurd c (by decide)) (fun _ => ?_)
        refine And.intro (fun c => absurd c (by decide)) (fun _ => ?_)
        refine And.intro (fun _ => ?_) (fun c => absurd c (by decide))
        exact ⟨true, h, [], ⟨rfl, rfl, trivial⟩, trivial, rfl⟩
    · replace h := cT h c
      refine And.intro (fun c => absurd c (by decide)) (fun _ => ?_)
      refine And.intro (fun c => absurd c (by decide)) (fun _ => ?_)
      refine And.intro (fun _ => ?_) (fun c => absurd c (by decide))
      refine And.intro (fun c => absurd c (by decide)) (fun _ => ?_)
      refine And.intro (fun c => absurd c (by decide)) (fun _ => ?_)
      refine And.intro (fun c => absurd c (by decide)) (fun _ => ?_)
      refine And.intro (fun c => absurd c (by decide)) (fun _ => ?_)
      refine And.intro (fun c => absurd c (by decide)) (fun _ => ?_)
      refine And.intro (fun _ => ?_) (fun c => absurd c (by decide))
      exact ⟨true, h, [], ⟨rfl, rfl, trivial⟩, trivial, rfl⟩
  · rintro v305 h
    unfold m_impl_decimal_j2 at h
    refine And.intro (fun c => ?_) (fun c => ?_)
    · replace h := cT h c
      refine .inl ?_
      replace h := Option.some.inj h
      subst h
      exact ⟨[.p (I 0), .p (B false)], [], ⟨[], ⟨rfl, rfl, trivial⟩, trivial, rfl⟩, rfl, rfl, rfl⟩
    · replace h := cF h c
      refine .inl ?_
      refine .inr ⟨Int, fun x => ([(4, .p (I x))], []), fun x => m_impl_decimal_j4 x = some r, ?_, ?_⟩
      · refine .inl ?_
        refine ⟨Int × Int, fun x => ([(0, .p (S a28)), (4, .p (I x.1)), (25, .p (I (a28.size : Int))), (26, .p (I x.2))], []), fun x k => m_impl_decimal_l5 n a28 k x.1 x.2 = some r, ⟨(0, 0), n, h, [], ⟨rfl, rfl, rfl, rfl, trivial⟩, trivial, rfl⟩, ?_⟩
        rintro ⟨v311, v312⟩ (_ | k5) h
        · exact ns h
        unfold m_impl_decimal_l5 at h
        refine .inl ?_
        refine .inl ?_
        refine And.intro (fun c => ?_) (fun c => ?_)
        · replace h := cT h c
          refine .inl ?_
          refine .inl ?_
          refine .inl ?_
          refine .inl ?_
          obtain ⟨g15, h⟩ := gpT h
          refine And.intro g15 ?_
          obtain ⟨r346, hr346, h⟩ := bsm h
          refine callA (c_impl_isDigit n (bt a28 v312) _ hr346) ?_
          refine And.intro (fun c => ?_) (fun c => ?_)
          · replace h := cT h c
            refine .inl ?_
            replace h := Option.some.inj h
            subst h
            exact ⟨[.p (I 0), .p (B false)], [], ⟨[], ⟨rfl, rfl, trivial⟩, trivial, rfl⟩, rfl, rfl, rfl⟩
          · replace h := cF h c
            obtain ⟨g14, h⟩ := gpT h
            refine And.intro g14 ?_
            exact ⟨((wr .i64 ((wr .i64 (v311 * 10)) + (wr .i64 (wr .u8 ((bt a28 v312) - 48))))), (wr .i64 (v312 + 1))), k5, h, Nat.lt_succ_self _, [], ⟨rfl, rfl, rfl, rfl, trivial⟩, trivial, rfl⟩
        · replace h := cF h c
          exact ⟨v311, h, [], ⟨rfl, trivial⟩, trivial, rfl⟩
      · rintro v310 h
        unfold m_impl_decimal_j4 at h
        refine .inl ?_
        replace h := Option.some.inj h
        subst h
        exact ⟨[.p (I v310), .p (B true)], [], ⟨[], ⟨rfl, rfl, trivial⟩, trivial, rfl⟩, rfl, rfl, rfl⟩
def m_impl_readIns_1 (n : Nat) (a30 : List ByteArray) : Option (Int × Bool × List ByteArray) :=
  bif (((a30.map S).length : Int) == 0) then (
    some (0, false, a30))
  else (
    (ix a30 0).bind fun x334 =>
    (m_impl_decimal n x334).bind fun r350 =>
    gp (0 ≤ (1 : Int) ∧ (1 : Int) ≤ ((a30.map S).length : Int) ∧ ((a30.map S).length : Int) ≤ ((a30.map S).length : Int)) <|
    some (r350.1, r350.2, ((a30.take ((a30.map S).length : Int).toNat).drop (1 : Int).toNat)))
theorem c_impl_readIns_1 (n : Nat) (a30 : List ByteArray) (r : Int × Bool × List ByteArray) (h : m_impl_readIns_1 n a30 = some r) : Sy.Fn Tryd.prog 44 [.ptr 0 0] [.box 48 [.p (.lst (a30.map S))]] (fun rs τ' => rs = [.p (I r.1), .p (B r.2.1)] ∧ τ' = [.box 48 [.p (.lst (r.2.2.map S))]]) := by
  unfold m_impl_readIns_1 at h
  refine fn_introJ Tryd.func44 rfl rfl rfl ?_
  refine .inl ?_
  refine .inl ?_
  refine .inl ?_
  refine And.intro (fun c => ?_) (fun c => ?_)
  · replace h := cT h c
    refine .inl ?_
    replace h := Option.some.inj h
    subst h
    exact ⟨[.p (I 0), .p (B false)], [.box 48 [.p (.lst (a30.map S))]], ⟨[], ⟨rfl, rfl, trivial⟩, ⟨⟨rfl, rfl, trivial⟩, trivial⟩, rfl⟩, rfl, rfl, rfl⟩
  · replace h := cF h c
    refine .inl ?_
    obtain ⟨x334, hx334, h⟩ := bsm h
    refine And.intro (ix0 hx334) (Exists.intro _ (And.intro (gm (ixg hx334)) (And.intro rfl ?_)))
    obtain ⟨r350, hr350, h⟩ := bsm h
    refine callA (c_impl_decimal n x334 _ hr350) ?_
    refine .inl ?_
    obtain ⟨g1, h⟩ := gpT h
    refine And.intro g1 (And.intro (.inr (hd_map (e := S) (fun _ => rfl) _)) ?_)
    refine .inl ?_
    replace h := Option.some.inj h
    subst h
    exact ⟨[.p (I r350.1), .p (B r350.2)], [.box 48 [.p (.lst (((a30.take ((a30.map S).length : Int).toNat).drop (1 : Int).toNat).map S))]], ⟨[], ⟨rfl, rfl, trivial⟩, ⟨⟨rfl, (congrArg (fun z => AV.p (.lst z)) (show ((a30.take ((a30.map S).length : Int).toNat).drop (1 : Int).toNat).map S = ((a30.map S).take ((a30.map S).length : Int).toNat).drop (1 : Int).toNat by simp)), trivial⟩, trivial⟩, rfl⟩, rfl, rfl, rfl⟩
def m_impl_readIns_j9 (v324 : Int) (v327 : Int) (v329 : Bool) (v330 : List ByteArray) (v331 : Int) : Option (gIns × Bool) :=
  bif v329 then (
    some ((gIns.mk v324 v327 v331), (((v330.map S).length : Int) == 0)))
  else (
    some ((gIns.mk v324 v327 v331), false))
def m_impl_readIns_j10 (n : Nat) (v324 : Int) (v325 : Bool) (v326 : List ByteArray) (v327 : Int) (v332 : Bool) : Option (gIns × Bool) :=
  bif v332 then (
    (m_impl_readIns_1 n v326).bind fun r356 =>
    m_impl_readIns_j9 v324 v327 r356.2.1 r356.2.2 r356.1)
  else (
    m_impl_readIns_j9 v324 v327 v325 v326 0)
def m_impl_readIns_j7 (n : Nat) (v324 : Int) (v325 : Bool) (v326 : List ByteArray) (v327 : Int) : Option (gIns × Bool) :=
  bif v325 then (
    (m_impl_jumps n v324).bind fun r357 =>
    m_impl_readIns_j10 n v324 v325 v326 v327 r357)
  else (
    m_impl_readIns_j10 n v324 v325 v326 v327 false)
def m_impl_readIns_j6 (n : Nat) (r347 : List ByteArray) (v324 : Int) : Option (gIns × Bool) :=
  bif (v324 == 0) then (
    some ((gIns.mk 0 0 0), false))
  else (
    gp (0 ≤ (1 : Int) ∧ (1 : Int) ≤ ((r347.map S).length : Int) ∧ ((r347.map S).length : Int) ≤ ((r347.map S).length : Int)) <|
    (m_impl_hasN n v324).bind fun r358 =>
    bif r358 then (
      (m_impl_readIns_1 n ((r347.take ((r347.map S).length : Int).toNat).drop (1 : Int).toNat)).bind fun r359 =>
      m_impl_readIns_j7 n v324 r359.2.1 r359.2.2 r359.1)
    else (
      m_impl_readIns_j7 n v324 true ((r347.take ((r347.map S).length : Int).toNat).drop (1 : Int).toNat) 0))
def m_impl_readIns_j15 (v336 : Int) (v337 : Int) (rec14 : Int → Int → Option (gIns × Bool)) (v341 : Bool) : Option (gIns × Bool) :=
  bif v341 then (
    rec14 (wr .i64 (v336 + 1)) v336)
  else (
    rec14 (wr .i64 (v336 + 1)) v337)
def m_impl_readIns_l14 (n : Nat) (r347 : List ByteArray) (r360 : List ByteArray) : Nat → Int → Int → Option (gIns × Bool)
  | 0, _, _ => none
  | k14 + 1, v336, v337 =>
    bif (decide (v336 < ((r360.map S).length : Int))) then (
      (ix r360 v336).bind fun x344 =>
      bif (decide (v336 > 0)) then (
        (ix r347 0).bind fun x346 =>
        m_impl_readIns_j15 v336 v337 (m_impl_readIns_l14 n r347 r360 k14) (decide (x344 = x346)))
      else (
        m_impl_readIns_j15 v336 v337 (m_impl_readIns_l14 n r347 r360 k14) false))
    else (
      m_impl_readIns_j6 n r347 v337)
def m_impl_readIns (n : Nat) (a29 : ByteArray) : Option (gIns × Bool) :=
  (m_strings_Split n a29 ⟨#[32]⟩).bind fun r347 =>
  (m_impl_insWords n ).bind fun r360 =>
  m_impl_readIns_l14 n r347 r360 n 0 0
theorem c_impl_readIns (n : Nat) (a29 : ByteArray) (r : gIns × Bool) (h : m_impl_readIns n a29 = some r) : FnP Tryd.prog 30 [S a29] [r.1.enc, B r.2] := by
  unfold m_impl_readIns at h
  refine fn_introJ Tryd.func30 rfl rfl rfl ?_
  refine .inl ?_
  refine .inl ?_
  obtain ⟨r347, hr347, h⟩ := bsm h
  refine callA (c_strings_Split n a29 ⟨#[32]⟩ _ hr347) ?_
  refine .inl ?_
  refine .inr ⟨Int, fun x => ([(2, .ptr 0 0), (4, .ptr 1 0), (5, .ptr 2 0)], [.box 38 [.p (I 0), .p (I 0), .p (I 0)], .box 48 [.p (.lst (r347.map S))], .box 38 [.p (I x), .p (I 0), .p (I 0)]]), fun x => m_impl_readIns_j6 n r347 x = some r, ?_, ?_⟩
  · refine .inl ?_
    obtain ⟨r360, hr360, h⟩ := bsm h
    refine callA (c_impl_insWords n _ hr360) ?_
    refine ⟨Int × Int, fun x => ([(2, .ptr 0 0), (4, .ptr 1 0), (5, .ptr 2 0), (12, .p (.lst (r360.map S))), (13, .p (I ((r360.map S).length : Int))), (14, .p (I x.1))], [.box 38 [.p (I 0), .p (I 0), .p (I 0)], .box 48 [.p (.lst (r347.map S))], .box 38 [.p (I x.2), .p (I 0), .p (I 0)]]), fun x k => m_impl_readIns_l14 n r347 r360 k x.1 x.2 = some r, ⟨(0, 0), n, h, [], ⟨rfl, rfl, rfl, rfl, rfl, rfl, trivial⟩, ⟨⟨rfl, rfl, rfl, rfl, trivial⟩, ⟨rfl, rfl, trivial⟩, ⟨rfl, rfl, rfl, rfl, trivial⟩, trivial⟩, rfl⟩, ?_⟩
    rintro ⟨v336, v337⟩ (_ | k14) h
    · exact ns h
    unfold m_impl_readIns_l14 at h
    refine .inl ?_
    refine .inl ?_
    refine And.intro (fun c => ?_) (fun c => ?_)
    · replace h := cT h c
      refine .inl ?_
      refine .inl ?_
      obtain ⟨x344, hx344, h⟩ := bsm h
      refine And.intro (ix0 hx344) (Exists.intro _ (And.intro (gm (ixg hx344)) (And.intro rfl ?_)))
      refine .inr ⟨Bool, fun x => ([(2, .ptr 0 0), (4, .ptr 1 0), (5, .ptr 2 0), (6, .p (I v336)), (12, .p (.lst (r360.map S))), (13, .p (I ((r360.map S).length : Int))), (14, .p (I v336)), (27, .p (B x))], [.box 38 [.p (I 0), .p (I 0), .p (I 0)], .box 48 [.p (.lst (r347.map S))], .box 38 [.p (I v337), .p (I 0), .p (I 0)]]), fun x => m_impl_readIns_j15 v336 v337 (m_impl_readIns_l14 n r347 r360 k14) x = some r, ?_, ?_⟩
      · refine And.intro (fun c => ?_) (fun c => ?_)
        · replace h := cT h c
          refine And.intro (fun _ => ?_) (fun c => absurd c (by decide))
          refine And.intro (fun _ => ?_) (fun c => absurd c (by decide))
          obtain ⟨x346, hx346, h⟩ := bsm h
          refine And.intro (ix0 hx346) (Exists.intro _ (And.intro (gm (ixg hx346)) (And.intro rfl ?_)))
          refine And.intro (fun _ => ?_) (fun c => absurd c (by decide))
          refine And.intro (fun _ => ?_) (fun c => absurd c (by decide))
          refine And.intro (fun _ => ?_) (fun c => absurd c (by decide))
          exact ⟨(decide (x344 = x346)), h, [], ⟨rfl, rfl, rfl, rfl, rfl, rfl, rfl, rfl, trivial⟩, ⟨⟨rfl, rfl, rfl, rfl, trivial⟩, ⟨rfl, rfl, trivial⟩, ⟨rfl, rfl, rfl, rfl, trivial⟩, trivial⟩, rfl⟩
        · replace h := cF h c
          refine And.intro (fun c => absurd c (by decide)) (fun _ => ?_)
          refine And.intro (fun c => absurd c (by decide)) (fun _ => ?_)
          refine And.intro (fun c => absurd c (by decide)) (fun _ => ?_)
          refine And.intro (fun c => absurd c (by decide)) (fun _ => ?_)
          refine And.intro (fun c => absurd c (by decide)) (fun _ => ?_)
          exact ⟨false, h, [], ⟨rfl, rfl, rfl, rfl, rfl, rfl, rfl, rfl, trivial⟩, ⟨⟨rfl, rfl, rfl, rfl, trivial⟩, ⟨rfl, rfl, trivial⟩, ⟨rfl, rfl, rfl, rfl, trivial⟩, trivial⟩, rfl⟩
      · rintro v341 h
        unfold m_impl_readIns_j15 at h
        refine And.intro (fun c => ?_) (fun c => ?_)
        · replace h := cT h c
          exact ⟨((wr .i64 (v336 + 1)), v336), k14, h, Nat.lt_succ_self _, [], ⟨rfl, rfl, rfl, rfl, rfl, rfl, trivial⟩, ⟨⟨rfl, rfl, rfl, rfl, trivial⟩, ⟨rfl, rfl, trivial⟩, ⟨rfl, rfl, rfl, rfl, trivial⟩, trivial⟩, rfl⟩
        · replace h := cF h c
          exact ⟨((wr .i64 (v336 + 1)), v337), k14, h, Nat.lt_succ_self _, [], ⟨rfl, rfl, rfl, rfl, rfl, rfl, trivial⟩, ⟨⟨rfl, rfl, rfl, rfl, trivial⟩, ⟨rfl, rfl, trivial⟩, ⟨rfl, rfl, rfl, rfl, trivial⟩, trivial⟩, rfl⟩
    · replace h := cF h c
      exact ⟨v337, h, [], ⟨rfl, rfl, rfl, trivial⟩, ⟨⟨rfl, rfl, rfl, rfl, trivial⟩, ⟨rfl, rfl, trivial⟩, ⟨rfl, rfl, rfl, rfl, trivial⟩, trivial⟩, rfl⟩
  · rintro v324 h
    unfold m_impl_readIns_j6 at h
    refine .inl ?_
    refine .inl ?_
    refine And.intro (fun c => ?_) (fun c => ?_)
    · replace h := cT h c
      refine .inl ?_
      replace h := Option.some.inj h
      subst h
      exact ⟨[.p ((gIns.mk 0 0 0).enc), .p (B false)], [], ⟨[], ⟨rfl, rfl, trivial⟩, trivial, rfl⟩, rfl, rfl, rfl⟩
    · replace h := cF h c
      refine .inl ?_
      obtain ⟨g1, h⟩ := gpT h
      refine And.intro g1 (And.intro (.inr (hd_map (e := S) (fun _ => rfl) _)) ?_)
      refine .inl ?_
      refine .inl ?_
      refine .inr ⟨Bool × List ByteArray × Int, fun x => ([(2, .ptr 0 0), (4, .ptr 1 0), (5, .ptr 2 0), (8, .fn 44 [.ptr 1 0]), (9, .p (B x.1))], [.box 38 [.p (I 0), .p (I 0), .p (I 0)], .box 48 [.p (.lst (x.2.1.map S))], .box 38 [.p (I v324), .p (I x.2.2), .p (I 0)]]), fun x => m_impl_readIns_j7 n v324 x.1 x.2.1 x.2.2 = some r, ?_, ?_⟩
      · refine .inl ?_
        obtain ⟨r358, hr358, h⟩ := bsm h
        refine callA (c_impl_hasN n v324 _ hr358) ?_
        refine And.intro (fun c => ?_) (fun c => ?_)
        · replace h := cT h c
          obtain ⟨r359, hr359, h⟩ := bsm h
          refine callW (args' := [.ptr 0 0]) (τ0 := [.box 48 [.p (.lst (((r347.take ((r347.map S).length : Int).toNat).drop (1 : Int).toNat).map S))]]) [1] [] (c_impl_readIns_1 n ((r347.take ((r347.map S).length : Int).toNat).drop (1 : Int).toNat) _ hr359) (fun K hk => hk) rfl ⟨rfl, trivial⟩ ⟨⟨rfl, (congrArg (fun z => AV.p (.lst z)) (show ((r347.take ((r347.map S).length : Int).toNat).drop (1 : Int).toNat).map S = ((r347.map S).take ((r347.map S).length : Int).toNat).drop (1 : Int).toNat by simp)), trivial⟩, trivial⟩ rfl ?_
          rintro rs τ' hl' ⟨rfl, rfl⟩
          exact ⟨(r359.2.1, r359.2.2, r359.1), h, [], ⟨rfl, rfl, rfl, rfl, rfl, trivial⟩, ⟨⟨rfl, rfl, rfl, rfl, trivial⟩, ⟨rfl, rfl, trivial⟩, ⟨rfl, rfl, rfl, rfl, trivial⟩, trivial⟩, rfl⟩
        · replace h := cF h c
          exact ⟨(true, ((r347.take ((r347.map S).length : Int).toNat).drop (1 : Int).toNat), 0), h, [], ⟨rfl, rfl, rfl, rfl, rfl, trivial⟩, ⟨⟨rfl, rfl, rfl, rfl, trivial⟩, ⟨rfl, (congrArg (fun z => AV.p (.lst z)) (show ((r347.take ((r347.map S).length : Int).toNat).drop (1 : Int).toNat).map S = ((r347.map S).take ((r347.map S).length : Int).toNat).drop (1 : Int).toNat by simp)), trivial⟩, ⟨rfl, rfl, rfl, rfl, trivial⟩, trivial⟩, rfl⟩
      · rintro ⟨v325, v326, v327⟩ h
        unfold m_impl_readIns_j7 at h
        refine .inr ⟨Bool × List ByteArray × Int, fun x => ([(2, .ptr 0 0), (4, .ptr 1 0), (5, .ptr 2 0), (9, .p (B x.1))], [.box 38 [.p (I 0), .p (I 0), .p (I 0)], .box 48 [.p (.lst (x.2.1.map S))], .box 38 [.p (I v324), .p (I v327), .p (I x.2.2)]]), fun x => m_impl_readIns_j9 v324 v327 x.1 x.2.1 x.2.2 = some r, ?_, ?_⟩
        · refine .inr ⟨Bool, fun x => ([(2, .ptr 0 0), (4, .ptr 1 0), (5, .ptr 2 0), (8, .fn 44 [.ptr 1 0]), (9, .p (B v325)), (52, .p (B x))], [.box 38 [.p (I 0), .p (I 0), .p (I 0)], .box 48 [.p (.lst (v326.map S))], .box 38 [.p (I v324), .p (I v327), .p (I 0)]]), fun x => m_impl_readIns_j10 n v324 v325 v326 v327 x = some r, ?_, ?_⟩
          · refine And.intro (fun c => ?_) (fun c => ?_)
            · replace h := cT h c
              refine And.intro (fun _ => ?_) (fun c => absurd c (by decide))
              refine And.intro (fun _ => ?_) (fun c => absurd c (by decide))
              obtain ⟨r357, hr357, h⟩ := bsm h
              refine callA (c_impl_jumps n v324 _ hr357) ?_
              refine And.intro (fun _ => ?_) (fun c => absurd c (by decide))
              exact ⟨r357, h, [], ⟨rfl, rfl, rfl, rfl, rfl, rfl, trivial⟩, ⟨⟨rfl, rfl, rfl, rfl, trivial⟩, ⟨rfl, rfl, trivial⟩, ⟨rfl, rfl, rfl, rfl, trivial⟩, trivial⟩, rfl⟩
            · replace h := cF h c
              refine And.intro (fun c => absurd c (by decide)) (fun _ => ?_)
              refine And.intro (fun c => absurd c (by decide)) (fun _ => ?_)
              refine And.intro (fun c => absurd c (by decide)) (fun _ => ?_)
              exact ⟨false, h, [], ⟨rfl, rfl, rfl, rfl, rfl, rfl, trivial⟩, ⟨⟨rfl, rfl, rfl, rfl, trivial⟩, ⟨rfl, rfl, trivial⟩, ⟨rfl, rfl, rfl, rfl, trivial⟩, trivial⟩, rfl⟩
          · rintro v332 h
            unfold m_impl_readIns_j10 at h
            refine And.intro (fun c => ?_) (fun c => ?_)
            · replace h := cT h c
              obtain ⟨r356, hr356, h⟩ := bsm h
              refine callW (args' := [.ptr 0 0]) (τ0 := [.box 48 [.p (.lst (v326.map S))]]) [1] [] (c_impl_readIns_1 n v326 _ hr356) (fun K hk => hk) rfl ⟨rfl, trivial⟩ ⟨⟨rfl, rfl, trivial⟩, trivial⟩ rfl ?_
              rintro rs τ' hl' ⟨rfl, rfl⟩
              exact ⟨(r356.2.1, r356.2.2, r356.1), h, [], ⟨rfl, rfl, rfl, rfl, trivial⟩, ⟨⟨rfl, rfl, rfl, rfl, trivial⟩, ⟨rfl, rfl, trivial⟩, ⟨rfl, rfl, rfl, rfl, trivial⟩, trivial⟩, rfl⟩
            · replace h := cF h c
              exact ⟨(v325, v326, 0), h, [], ⟨rfl, rfl, rfl, rfl, trivial⟩, ⟨⟨rfl, rfl, rfl, rfl, trivial⟩, ⟨rfl, rfl, trivial⟩, ⟨rfl, rfl, rfl, rfl, trivial⟩, trivial⟩, rfl⟩
        · rintro ⟨v329, v330, v331⟩ h
          unfold m_impl_readIns_j9 at h
          refine .inl ?_
          refine ⟨[2000, 1, 2, 3, 4, 5, 6, 7, 8], [0], by decide +kernel, ?_⟩
          refine And.intro (fun c => ?_) (fun c => ?_)
          · replace h := cT h c
            refine And.intro (fun _ => ?_) (fun c => absurd c (by decide))
            refine And.intro (fun _ => ?_) (fun c => absurd c (by decide))
            refine And.intro (fun _ => ?_) (fun c => absurd c (by decide))
            replace h := Option.some.inj h
            subst h
            exact ⟨[.p ((gIns.mk v324 v327 v331).enc), .p (B (((v330.map S).length : Int) == 0))], [], ⟨[], ⟨rfl, rfl, trivial⟩, trivial, rfl⟩, rfl, rfl, rfl⟩
          · replace h := cF h c
            refine And.intro (fun c => absurd c (by decide)) (fun _ => ?_)
            refine And.intro (fun c => absurd c (by decide)) (fun _ => ?_)
            refine And.intro (fun c => absurd c (by decide)) (fun _ => ?_)
            replace h := Option.some.inj h
            subst h
            exact ⟨[.p ((gIns.mk v324 v327 v331).enc), .p (B false)], [], ⟨[], ⟨rfl, rfl, trivial⟩, trivial, rfl⟩, rfl, rfl, rfl⟩
def m_impl_ProgramRead_j14 (n : Nat) (v360 : List gIns) : Option (List gIns × Int × Int) :=
  (m_impl_ProgramOK n v360).bind fun r373 =>
  bif (!r373) then (
    some ([], 10, 0))
  else (
    some (v360, 0, 0))
def m_impl_ProgramRead_j27 (v366 : Int) (v367 : List gIns) (rec23 : ByteArray → Int → List gIns → Option (List gIns × Int × Int)) (r384 : ByteArray × ByteArray × Bool) (r385 : gIns × Bool) (v378 : Bool) : Option (List gIns × Int × Int) :=
  bif v378 then (
    some ([], 2, v366))
  else (
    gp (v367.length + ([r385.1] : List gIns).length ≤ 68719476736) <|
    rec23 r384.2.1 (wr .i64 (v366 + 1)) (v367 ++ [r385.1]))
def m_impl_ProgramRead_l23 (n : Nat) : Nat → ByteArray → Int → List gIns → Option (List gIns × Int × Int)
  | 0, _, _, _ => none
  | k23 + 1, v365, v366, v367 =>
    bif (!decide (v365 = ⟨#[]⟩)) then (
      (m_strings_Cut n v365 ⟨#[10]⟩).bind fun r384 =>
      (m_impl_readIns n r384.1).bind fun r385 =>
      bif (!r384.2.2) then (
        m_impl_ProgramRead_j27 v366 v367 (m_impl_ProgramRead_l23 n k23) r384 r385 true)
      else (
        m_impl_ProgramRead_j27 v366 v367 (m_impl_ProgramRead_l23 n k23) r384 r385 (!r385.2)))
    else (
      m_impl_ProgramRead_j14 n v367)
def m_impl_ProgramRead (n : Nat) (a31 : ByteArray) : Option (List gIns × Int × Int) :=
  bif (decide ((a31.size : Int) > 400000)) then (
    some ([], 1, 0))
  else (
    m_impl_ProgramRead_l23 n n a31 0 [])
theorem c_impl_ProgramRead (n : Nat) (a31 : ByteArray) (r : List gIns × Int × Int) (h : m_impl_ProgramRead n a31 = some r) : Sy.Fn Tryd.prog 11 [.p (S a31)] [] (fun rs τ' => rs = [.row 0 3 0 r.1.length, .p (I r.2.1), .p (I r.2.2)] ∧ τ' = [.row 38 3 (r.1.map gIns.enc)]) := by
  unfold m_impl_ProgramRead at h
  refine fn_introJ Tryd.func11 rfl rfl rfl ?_
  refine .inl ?_
  refine .inl ?_
  refine .inl ?_
  refine And.intro (fun c => ?_) (fun c => ?_)
  · replace h := cT h c
    refine .inl ?_
    refine .inr ?_
    replace h := Option.some.inj h
    subst h
    exact ⟨[.row 0 3 0 [].length, .p (I 1), .p (I 0)], [.row 38 3 ([].map gIns.enc)], ⟨[(38, 3)], ⟨⟨rfl, rfl⟩, rfl, rfl, trivial⟩, ⟨rfl, trivial⟩, rfl⟩, rfl, rfl, rfl⟩
  · replace h := cF h c
    refine .inl ?_
    refine .inr ⟨List gIns, fun x => ([(5, .row 0 3 0 x.length)], [.row 38 3 (x.map gIns.enc)]), fun x => m_impl_ProgramRead_j14 n x = some r, ?_, ?_⟩
    · refine .inl ?_
      refine ⟨ByteArray × Int × List gIns, fun x => ([(0, .p (S x.1)), (5, .row 0 3 0 x.2.2.length), (6, .p (I x.2.1))], [.row 38 3 (x.2.2.map gIns.enc)]), fun x k => m_impl_ProgramRead_l23 n k x.1 x.2.1 x.2.2 = some r, ⟨(a31, 0, []), n, h, [(38, 3)], ⟨rfl, ⟨rfl, rfl⟩, rfl, trivial⟩, ⟨rfl, trivial⟩, rfl⟩, ?_⟩
      rintro ⟨v365, v366, v367⟩ (_ | k23) h
      · exact ns h
      unfold m_impl_ProgramRead_l23 at h
      refine .inl ?_
      refine .inl ?_
      refine And.intro (fun c => ?_) (fun c => ?_)
      · replace h := cT h c
        refine .inl ?_
        refine .inl ?_
        obtain ⟨r384, hr384, h⟩ := bsm h
        refine callA (c_strings_Cut n v365 ⟨#[10]⟩ _ hr384) ?_
        refine .inl ?_
        obtain ⟨r385, hr385, h⟩ := bsm h
        refine callA (c_impl_readIns n r384.1 _ hr385) ?_
        refine .inl ?_
        refine .inr ⟨Bool, fun x => ([(5, .row 0 3 0 v367.length), (6, .p (I v366)), (8, .p (S r384.2.1)), (10, .ptr 1 0), (35, .p (B x))], [.row 38 3 (v367.map gIns.enc), .box 38 [.p (I r385.1.op_), .p (I r385.1.n_), .p (I r385.1.to_)]]), fun x => m_impl_ProgramRead_j27 v366 v367 (m_impl_ProgramRead_l23 n k23) r384 r385 x = some r, ?_, ?_⟩
        · refine And.intro (fun c => ?_) (fun c => ?_)
          · replace h := cF h c
            refine And.intro (fun _ => ?_) (fun c => absurd c (by decide))
            refine And.intro (fun c => absurd c (by decide)) (fun _ => ?_)
            exact ⟨(!r385.2), h, [], ⟨rfl, rfl, rfl, rfl, rfl, trivial⟩, ⟨rfl, ⟨rfl, rfl, rfl, rfl, trivial⟩, trivial⟩, rfl⟩
          · replace h := cT h c
            refine And.intro (fun c => absurd c (by decide)) (fun _ => ?_)
            refine And.intro (fun _ => ?_) (fun c => absurd c (by decide))
            exact ⟨true, h, [], ⟨rfl, rfl, rfl, rfl, rfl, trivial⟩, ⟨rfl, ⟨rfl, rfl, rfl, rfl, trivial⟩, trivial⟩, rfl⟩
        · rintro v378 h
          unfold m_impl_ProgramRead_j27 at h
          refine And.intro (fun c => ?_) (fun c => ?_)
          · replace h := cT h c
            refine .inl ?_
            refine .inr ?_
            replace h := Option.some.inj h
            subst h
            exact ⟨[.row 0 3 0 [].length, .p (I 2), .p (I v366)], [.row 38 3 ([].map gIns.enc)], ⟨[(888888, 1000000)], ⟨⟨rfl, rfl⟩, rfl, rfl, trivial⟩, ⟨rfl, trivial⟩, rfl⟩, rfl, rfl, rfl⟩
          · replace h := cF h c
            refine .inl ?_
            refine And.intro (show fits _ _ from ⟨⟨rfl, rfl⟩, trivial⟩) ?_
            obtain ⟨g12, h⟩ := gpT h
            refine Exists.intro ([r385.1.enc]) (And.intro (rowN rfl rfl) ?_)
            refine Exists.intro (v367.map gIns.enc) (And.intro (rowX (rowN rfl (show v367.length = (v367.map gIns.enc).length by first | (simp; done) | (simp; omega))) (show fits _ _ from ⟨⟨rfl, rfl⟩, trivial⟩) (appfitJ (by first | simpa using g12 | (simp at g12 ⊢; omega)) rfl)) ?_)
            exact ⟨(r384.2.1, (wr .i64 (v366 + 1)), (v367 ++ [r385.1])), k23, h, Nat.lt_succ_self _, [], ⟨rfl, (congrArg (AV.row 0 3 0) (show (v367 ++ [r385.1]).length = (v367.length + ([r385.1.enc] : List PV).length) by first | (simp; done) | (simp; omega))), rfl, trivial⟩, ⟨(congrArg (Bk.row 38 3) (show (v367 ++ [r385.1]).map gIns.enc = (v367.map gIns.enc) ++ [r385.1.enc] by simp)), trivial⟩, rfl⟩
      · replace h := cF h c
        exact ⟨v367, h, [], ⟨rfl, trivial⟩, ⟨rfl, trivial⟩, rfl⟩
    · rintro v360 h
      unfold m_impl_ProgramRead_j14 at h
      refine .inl ?_
      refine .inl ?_
      obtain ⟨r373, hr373, h⟩ := bsm h
      refine callV (c_impl_ProgramOK n v360 _ hr373) rfl (fun K hk => Exists.intro _ (And.intro (rowN rfl (show v360.length = (v360.map gIns.enc).length by first | (simp; done) | (simp; omega))) hk)) ?_
      refine And.intro (fun c => ?_) (fun c => ?_)
      · replace h := cT h c
        refine .inl ?_
        refine .inr ?_
        replace h := Option.some.inj h
        subst h
        exact ⟨[.row 0 3 0 [].length, .p (I 10), .p (I 0)], [.row 38 3 ([].map gIns.enc)], ⟨[(888888, 1000000)], ⟨⟨rfl, rfl⟩, rfl, rfl, trivial⟩, ⟨rfl, trivial⟩, rfl⟩, rfl, rfl, rfl⟩
      · replace h := cF h c
        refine .inl ?_
        refine .inr ?_
        replace h := Option.some.inj h
        subst h
        exact ⟨[.row 0 3 0 v360.length, .p (I 0), .p (I 0)], [.row 38 3 (v360.map gIns.enc)], ⟨[], ⟨rfl, rfl, rfl, trivial⟩, ⟨rfl, trivial⟩, rfl⟩, rfl, rfl, rfl⟩
def m_laws_markInsS_j2 (v385 : Int) (v386 : List gIns) : Option (Int × List gIns) :=
  some (v385, v386)
def m_laws_markInsS_l3 : Nat → Int → Int → List gIns → Option (Int × List gIns)
  | 0, _, _, _ => none
  | k3 + 1, v387, v388, v389 =>
    bif (decide (v388 < ((v389.length : Nat) : Int))) then (
      (ix v389 v388).bind fun x362 =>
      (ix (v389.set v388.toNat (gIns.mk v387 x362.n_ x362.to_)) v388).bind fun x363 =>
      (ix ((v389.set v388.toNat (gIns.mk v387 x362.n_ x362.to_)).set v388.toNat (gIns.mk x363.op_ (wr .i64 (v387 + 1)) x363.to_)) v388).bind fun x364 =>
      (m_laws_markInsS_l3 k3) (wr .i64 ((wr .i64 ((wr .i64 (v387 + 1)) + 1)) + 1)) (wr .i64 (v388 + 1)) (((v389.set v388.toNat (gIns.mk v387 x362.n_ x362.to_)).set v388.toNat (gIns.mk x363.op_ (wr .i64 (v387 + 1)) x363.to_)).set v388.toNat (gIns.mk x364.op_ x364.n_ (wr .i64 ((wr .i64 (v387 + 1)) + 1)))))
    else (
      m_laws_markInsS_j2 v387 v389)
def m_laws_markInsS (n : Nat) (a32 : List gIns) (a33 : Int) : Option (Int × List gIns) :=
  m_laws_markInsS_l3 n a33 0 a32
theorem c_laws_markInsS (n : Nat) (a32 : List gIns) (a33 : Int) (r : Int × List gIns) (h : m_laws_markInsS n a32 a33 = some r) : Sy.Fn Tryd.prog 12 [.row 0 3 0 a32.length, .p (I a33)] [.lend 38 3 (a32.map gIns.enc)] (fun rs τ' => rs = [.p (I r.1)] ∧ τ' = [.lend 38 3 (r.2.map gIns.enc)]) := by
  unfold m_laws_markInsS at h
  refine fn_introJ Tryd.func12 rfl rfl rfl ?_
  refine .inl ?_
  refine .inr ⟨Int × List gIns, fun x => ([(1, .p (I x.1))], [.lend 38 3 (x.2.map gIns.enc)]), fun x => m_laws_markInsS_j2 x.1 x.2 = some r, ?_, ?_⟩
  · refine .inl ?_
    refine ⟨Int × Int × List gIns, fun x => ([(0, .row 0 3 0 x.2.2.length), (1, .p (I x.1)), (5, .p (I x.2.1))], [.lend 38 3 (x.2.2.map gIns.enc)]), fun x k => m_laws_markInsS_l3 k x.1 x.2.1 x.2.2 = some r, ⟨(a33, 0, a32), n, h, [], ⟨rfl, rfl, rfl, trivial⟩, ⟨rfl, trivial⟩, rfl⟩, ?_⟩
    rintro ⟨v387, v388, v389⟩ (_ | k3) h
    · exact ns h
    unfold m_laws_markInsS_l3 at h
    refine .inl ?_
    refine .inl ?_
    refine And.intro (fun c => ?_) (fun c => ?_)
    · replace h := cT h c
      refine .inl ?_
      refine .inl ?_
      obtain ⟨x362, hx362, h⟩ := bsm h
      refine And.intro (ixr hx362) ?_
      refine Exists.intro _ (And.intro ⟨(gz (gm (ixg hx362))), ⟨rfl, rfl⟩, by decide⟩ ?_)
      refine .inl ?_
      refine .inl ?_
      obtain ⟨x363, hx363, h⟩ := bsm h
      refine And.intro (by have q := ixr hx363; simp at q ⊢; omega) ?_
      refine Exists.intro _ (And.intro ⟨(gz (gc (show (v389.map gIns.enc).set (0 + v388.toNat) ((gIns.mk v387 x362.n_ x362.to_).enc) = (v389.set v388.toNat (gIns.mk v387 x362.n_ x362.to_)).map gIns.enc by simp) (gm (ixg hx363)))), ⟨rfl, rfl⟩, by decide⟩ ?_)
      refine .inl ?_
      refine .inl ?_
      obtain ⟨x364, hx364, h⟩ := bsm h
      refine And.intro (by have q := ixr hx364; simp at q ⊢; omega) ?_
      refine Exists.intro _ (And.intro ⟨(gz (gc (show ((v389.map gIns.enc).set (0 + v388.toNat) ((gIns.mk v387 x362.n_ x362.to_).enc)).set (0 + v388.toNat) ((gIns.mk x363.op_ (wr .i64 (v387 + 1)) x363.to_).enc) = ((v389.set v388.toNat (gIns.mk v387 x362.n_ x362.to_)).set v388.toNat (gIns.mk x363.op_ (wr .i64 (v387 + 1)) x363.to_)).map gIns.enc by simp) (gm (ixg hx364)))), ⟨rfl, rfl⟩, by decide⟩ ?_)
      exact ⟨((wr .i64 ((wr .i64 ((wr .i64 (v387 + 1)) + 1)) + 1)), (wr .i64 (v388 + 1)), (((v389.set v388.toNat (gIns.mk v387 x362.n_ x362.to_)).set v388.toNat (gIns.mk x363.op_ (wr .i64 (v387 + 1)) x363.to_)).set v388.toNat (gIns.mk x364.op_ x364.n_ (wr .i64 ((wr .i64 (v387 + 1)) + 1))))), k3, h, Nat.lt_succ_self _, [], ⟨(congrArg (AV.row 0 3 0) (show (((v389.set v388.toNat (gIns.mk v387 x362.n_ x362.to_)).set v388.toNat (gIns.mk x363.op_ (wr .i64 (v387 + 1)) x363.to_)).set v388.toNat (gIns.mk x364.op_ x364.n_ (wr .i64 ((wr .i64 (v387 + 1)) + 1)))).length = v389.length by first | (simp; done) | (simp; omega))), rfl, rfl, trivial⟩, ⟨(congrArg (Bk.lend 38 3) (show (((v389.set v388.toNat (gIns.mk v387 x362.n_ x362.to_)).set v388.toNat (gIns.mk x363.op_ (wr .i64 (v387 + 1)) x363.to_)).set v388.toNat (gIns.mk x364.op_ x364.n_ (wr .i64 ((wr .i64 (v387 + 1)) + 1)))).map gIns.enc = (((v389.map gIns.enc).set (0 + v388.toNat) ((gIns.mk v387 x362.n_ x362.to_).enc)).set (0 + v388.toNat) ((gIns.mk x363.op_ (wr .i64 (v387 + 1)) x363.to_).enc)).set (0 + v388.toNat) ((gIns.mk x364.op_ x364.n_ (wr .i64 ((wr .i64 (v387 + 1)) + 1))).enc) by simp)), trivial⟩, rfl⟩
    · replace h := cF h c
      exact ⟨(v387, v389), h, [], ⟨rfl, trivial⟩, ⟨rfl, trivial⟩, rfl⟩
  · rintro ⟨v385, v386⟩ h
    unfold m_laws_markInsS_j2 at h
    refine .inl ?_
    replace h := Option.some.inj h
    subst h
    exact ⟨[.p (I v385)], [.lend 38 3 (v386.map gIns.enc)], ⟨[], ⟨rfl, trivial⟩, ⟨rfl, trivial⟩, rfl⟩, rfl, rfl, rfl⟩
def m_laws_heldInsS_j2 (v397 : Int) : Option Int :=
  some v397
def m_laws_heldInsS_l3 (a34 : List gIns) : Nat → Int → Int → Option Int
  | 0, _, _ => none
  | k3 + 1, v398, v399 =>
    bif (decide (v399 < ((a34.map gIns.enc).length : Int))) then (
      (ix a34 v399).bind fun x380 =>
      bif (x380.op_ != v398) then (
        some (-1))
      else (
        (ix a34 v399).bind fun x381 =>
        bif (x381.n_ != (wr .i64 (v398 + 1))) then (
          some (-1))
        else (
          (ix a34 v399).bind fun x382 =>
          bif (x382.to_ != (wr .i64 ((wr .i64 (v398 + 1)) + 1))) then (
            some (-1))
          else (
            (m_laws_heldInsS_l3 a34 k3) (wr .i64 ((wr .i64 ((wr .i64 (v398 + 1)) + 1)) + 1)) (wr .i64 (v399 + 1))))))
    else (
      m_laws_heldInsS_j2 v398)
def m_laws_heldInsS (n : Nat) (a34 : List gIns) (a35 : Int) : Option Int :=
  m_laws_heldInsS_l3 a34 n a35 0
theorem c_laws_heldInsS (n : Nat) (a34 : List gIns) (a35 : Int) (r : Int) (h : m_laws_heldInsS n a34 a35 = some r) : FnP Tryd.prog 13 [.lst (a34.map gIns.enc), I a35] [I r] := by
  unfold m_laws_heldInsS at h
  refine fn_introJ Tryd.func13 rfl rfl rfl ?_
  refine .inl ?_
  refine .inr ⟨Int, fun x => ([(1, .p (I x))], []), fun x => m_laws_heldInsS_j2 x = some r, ?_, ?_⟩
  · refine .inl ?_
    refine ⟨Int × Int, fun x => ([(0, .p (.lst (a34.map gIns.enc))), (1, .p (I x.1)), (5, .p (I x.2))], []), fun x k => m_laws_heldInsS_l3 a34 k x.1 x.2 = some r, ⟨(a35, 0), n, h, [], ⟨rfl, rfl, rfl, trivial⟩, trivial, rfl⟩, ?_⟩
    rintro ⟨v398, v399⟩ (_ | k3) h
    · exact ns h
    unfold m_laws_heldInsS_l3 at h
    refine .inl ?_
    refine .inl ?_
    refine And.intro (fun c => ?_) (fun c => ?_)
    · replace h := cT h c
      refine .inl ?_
      refine .inl ?_
      refine .inl ?_
      obtain ⟨x380, hx380, h⟩ := bsm h
      refine And.intro (ix0 hx380) (Exists.intro _ (And.intro (gm (ixg hx380)) (And.intro rfl ?_)))
      refine And.intro (fun c => ?_) (fun c => ?_)
      · replace h := cT h c
        refine .inl ?_
        replace h := Option.some.inj h
        subst h
        exact ⟨[.p (I (-1))], [], ⟨[], ⟨rfl, trivial⟩, trivial, rfl⟩, rfl, rfl, rfl⟩
      · replace h := cF h c
        refine .inl ?_
        refine .inl ?_
        refine .inl ?_
        obtain ⟨x381, hx381, h⟩ := bsm h
        refine And.intro (ix0 hx381) (Exists.intro _ (And.intro (gm (ixg hx381)) (And.intro rfl ?_)))
        refine And.intro (fun c => ?_) (fun c => ?_)
        · replace h := cT h c
          refine .inl ?_
          replace h := Option.some.inj h
          subst h
          exact ⟨[.p (I (-1))], [], ⟨[], ⟨rfl, trivial⟩, trivial, rfl⟩, rfl, rfl, rfl⟩
        · replace h := cF h c
          refine .inl ?_
          refine .inl ?_
          refine .inl ?_
          obtain ⟨x382, hx382, h⟩ := bsm h
          refine And.intro (ix0 hx382) (Exists.intro _ (And.intro (gm (ixg hx382)) (And.intro rfl ?_)))
          refine And.intro (fun c => ?_) (fun c => ?_)
          · replace h := cT h c
            refine .inl ?_
            replace h := Option.some.inj h
            subst h
            exact ⟨[.p (I (-1))], [], ⟨[], ⟨rfl, trivial⟩, trivial, rfl⟩, rfl, rfl, rfl⟩
          · replace h := cF h c
            exact ⟨((wr .i64 ((wr .i64 ((wr .i64 (v398 + 1)) + 1)) + 1)), (wr .i64 (v399 + 1))), k3, h, Nat.lt_succ_self _, [], ⟨rfl, rfl, rfl, trivial⟩, trivial, rfl⟩
    · replace h := cF h c
      exact ⟨v398, h, [], ⟨rfl, trivial⟩, trivial, rfl⟩
  · rintro v397 h
    unfold m_laws_heldInsS_j2 at h
    refine .inl ?_
    replace h := Option.some.inj h
    subst h
    exact ⟨[.p (I v397)], [], ⟨[], ⟨rfl, trivial⟩, trivial, rfl⟩, rfl, rfl, rfl⟩
def m_laws_FnExactProgramRead (n : Nat) (a36 : ByteArray) : Option Bool :=
  bif (decide ((a36.size : Int) > 1048576)) then (
    some true)
  else (
    (m_spec_ProgramRead n a36).bind fun r386 =>
    (m_impl_ProgramRead n a36).bind fun r387 =>
    (m_laws_eqInsS n r387.1 r386.1).bind fun r389 =>
    bif (!r389) then (
      some false)
    else (
      bif (r387.2.1 != r386.2.1) then (
        some false)
      else (
        bif (r387.2.2 != r386.2.2) then (
          some false)
        else (
          (m_laws_markInsS n r387.1 1).bind fun r390 =>
          gp (r390.2.length = r387.1.length) <|
          (m_laws_heldInsS n r390.2 1).bind fun r391 =>
          bif (decide (r391 < 0)) then (
            some false)
          else (
            bif (r391 != r390.1) then (
              some false)
            else (
              (m_impl_ProgramRead n a36).bind fun r392 =>
              (m_laws_eqInsS n r392.1 r386.1).bind fun r394 =>
              bif (!r394) then (
                some false)
              else (
                bif (r392.2.1 != r386.2.1) then (
                  some false)
                else (
                  bif (r392.2.2 != r386.2.2) then (
                    some false)
                  else (
                    (m_laws_heldInsS n r390.2 1).bind fun r395 =>
                    bif (decide (r395 < 0)) then (
                      some false)
                    else (
                      bif (r395 != r390.1) then (
                        some false)
                      else (
                        some true)))))))))))
theorem c_laws_FnExactProgramRead (n : Nat) (a36 : ByteArray) (r : Bool) (h : m_laws_FnExactProgramRead n a36 = some r) : FnP Tryd.prog 4 [S a36] [B r] := by
  unfold m_laws_FnExactProgramRead at h
  refine fn_introJ Tryd.func4 rfl rfl rfl ?_
  refine .inl ?_
  refine .inl ?_
  refine .inl ?_
  refine And.intro (fun c => ?_) (fun c => ?_)
  · replace h := cT h c
    refine .inl ?_
    replace h := Option.some.inj h
    subst h
    exact ⟨[.p (B true)], [], ⟨[], ⟨rfl, trivial⟩, trivial, rfl⟩, rfl, rfl, rfl⟩
  · replace h := cF h c
    refine .inl ?_
    obtain ⟨r386, hr386, h⟩ := bsm h
    refine callA (c_spec_ProgramRead n a36 _ hr386) ?_
    refine .inl ?_
    obtain ⟨r387, hr387, h⟩ := bsm h
    refine callW (args' := [.p (S a36)]) (τ0 := []) [] [] (c_impl_ProgramRead n a36 _ hr387) (fun K hk => hk) rfl ⟨rfl, trivial⟩ trivial rfl ?_
    rintro rs τ' hl' ⟨rfl, rfl⟩
    refine .inl ?_
    refine .inl ?_
    obtain ⟨r389, hr389, h⟩ := bsm h
    refine callV (c_laws_eqInsS n r387.1 r386.1 _ hr389) rfl (fun K hk => Exists.intro _ (And.intro (rowN rfl (show r387.1.length = (r387.1.map gIns.enc).length by first | (simp; done) | (simp; omega))) hk)) ?_
    refine And.intro (fun c => ?_) (fun c => ?_)
    · replace h := cF h c
      refine And.intro (fun _ => ?_) (fun c => absurd c (by decide))
      refine And.intro (fun _ => ?_) (fun c => absurd c (by decide))
      refine And.intro (fun c => absurd c (by decide)) (fun _ => ?_)
      refine And.intro (fun c => ?_) (fun c => ?_)
      · replace h := cF h c
        refine And.intro (fun _ => ?_) (fun c => absurd c (by decide))
        refine And.intro (fun _ => ?_) (fun c => absurd c (by decide))
        refine And.intro (fun c => absurd c (by decide)) (fun _ => ?_)
        refine And.intro (fun c => ?_) (fun c => ?_)
        · replace h := cT h c
          refine .inl ?_
          replace h := Option.some.inj h
          subst h
          exact ⟨[.p (B false)], [], ⟨[], ⟨rfl, trivial⟩, trivial, rfl⟩, rfl, rfl, rfl⟩
        · replace h := cF h c
          refine .inl ?_
          refine .inl ?_
          obtain ⟨r390, hr390, h⟩ := bsm h
          refine callLW (args' := [.row 0 3 0 r387.1.length, .p (I 1)]) (τ0 := [.lend 38 3 (r387.1.map gIns.enc)]) [0] [0] [] (c_laws_markInsS n r387.1 1 _ hr390) rfl (fun K hk => Or.inr hk) rfl ⟨rfl, rfl, trivial⟩ ⟨rfl, trivial⟩ rfl ?_
          rintro rs τ' hl' ⟨rfl, rfl⟩
          obtain ⟨g1, h⟩ := gpT h
          refine .inl ?_
          refine .inl ?_
          obtain ⟨r391, hr391, h⟩ := bsm h
          refine callV (c_laws_heldInsS n r390.2 1 _ hr391) rfl (fun K hk => Exists.intro _ (And.intro (rowN rfl (show r387.1.length = (r390.2.map gIns.enc).length by first | (simp; done) | (simp; omega))) hk)) ?_
          refine .inl ?_
          refine .inl ?_
          refine And.intro (fun c => ?_) (fun c => ?_)
          · replace h := cT h c
            refine .inl ?_
            replace h := Option.some.inj h
            subst h
            exact ⟨[.p (B false)], [], ⟨[], ⟨rfl, trivial⟩, trivial, rfl⟩, rfl, rfl, rfl⟩
          · replace h := cF h c
            refine .inl ?_
            refine .inl ?_
            refine And.intro (fun c => ?_) (fun c => ?_)
            · replace h := cT h c
              refine .inl ?_
              replace h := Option.some.inj h
              subst h
              exact ⟨[.p (B false)], [], ⟨[], ⟨rfl, trivial⟩, trivial, rfl⟩, rfl, rfl, rfl⟩
            · replace h := cF h c
              refine .inl ?_
              obtain ⟨r392, hr392, h⟩ := bsm h
              refine callW (args' := [.p (S a36)]) (τ0 := []) [] [] (c_impl_ProgramRead n a36 _ hr392) (fun K hk => hk) rfl ⟨rfl, trivial⟩ trivial rfl ?_
              rintro rs τ' hl' ⟨rfl, rfl⟩
              refine .inl ?_
              refine .inl ?_
              obtain ⟨r394, hr394, h⟩ := bsm h
              refine callV (c_laws_eqInsS n r392.1 r386.1 _ hr394) rfl (fun K hk => Exists.intro _ (And.intro (rowN rfl (show r392.1.length = (r392.1.map gIns.enc).length by first | (simp; done) | (simp; omega))) hk)) ?_
              refine And.intro (fun c => ?_) (fun c => ?_)
              · replace h := cF h c
                refine And.intro (fun _ => ?_) (fun c => absurd c (by decide))
                refine And.intro (fun _ => ?_) (fun c => absurd c (by decide))
                refine And.intro (fun c => absurd c (by decide)) (fun _ => ?_)
                refine And.intro (fun c => ?_) (fun c => ?_)
                · replace h := cF h c
                  refine And.intro (fun _ => ?_) (fun c => absurd c (by decide))
                  refine And.intro (fun _ => ?_) (fun c => absurd c (by decide))
                  refine And.intro (fun c => absurd c (by decide)) (fun _ => ?_)
                  refine And.intro (fun c => ?_) (fun c => ?_)
                  · replace h := cT h c
                    refine .inl ?_
                    replace h := Option.some.inj h
                    subst h
                    exact ⟨[.p (B false)], [], ⟨[], ⟨rfl, trivial⟩, trivial, rfl⟩, rfl, rfl, rfl⟩
                  · replace h := cF h c
                    refine .inl ?_
                    refine .inl ?_
                    obtain ⟨r395, hr395, h⟩ := bsm h
                    refine callV (c_laws_heldInsS n r390.2 1 _ hr395) rfl (fun K hk => Exists.intro _ (And.intro (rowN rfl (show r387.1.length = (r390.2.map gIns.enc).length by first | (simp; done) | (simp; omega))) hk)) ?_
                    refine .inl ?_
                    refine .inl ?_
                    refine And.intro (fun c => ?_) (fun c => ?_)
                    · replace h := cT h c
                      refine .inl ?_
                      replace h := Option.some.inj h
                      subst h
                      exact ⟨[.p (B false)], [], ⟨[], ⟨rfl, trivial⟩, trivial, rfl⟩, rfl, rfl, rfl⟩
                    · replace h := cF h c
                      refine .inl ?_
                      refine .inl ?_
                      refine And.intro (fun c => ?_) (fun c => ?_)
                      · replace h := cT h c
                        refine .inl ?_
                        replace h := Option.some.inj h
                        subst h
                        exact ⟨[.p (B false)], [], ⟨[], ⟨rfl, trivial⟩, trivial, rfl⟩, rfl, rfl, rfl⟩
                      · replace h := cF h c
                        refine .inl ?_
                        replace h := Option.some.inj h
                        subst h
                        exact ⟨[.p (B true)], [], ⟨[], ⟨rfl, trivial⟩, trivial, rfl⟩, rfl, rfl, rfl⟩
                · replace h := cT h c
                  refine And.intro (fun c => absurd c (by decide)) (fun _ => ?_)
                  refine And.intro (fun c => absurd c (by decide)) (fun _ => ?_)
                  refine And.intro (fun _ => ?_) (fun c => absurd c (by decide))
                  refine And.intro (fun _ => ?_) (fun c => absurd c (by decide))
                  refine .inl ?_
                  replace h := Option.some.inj h
                  subst h
                  exact ⟨[.p (B false)], [], ⟨[], ⟨rfl, trivial⟩, trivial, rfl⟩, rfl, rfl, rfl⟩
              · replace h := cT h c
                refine And.intro (fun c => absurd c (by decide)) (fun _ => ?_)
                refine And.intro (fun c => absurd c (by decide)) (fun _ => ?_)
                refine And.intro (fun _ => ?_) (fun c => absurd c (by decide))
                refine And.intro (fun c => absurd c (by decide)) (fun _ => ?_)
                refine And.intro (fun c => absurd c (by decide)) (fun _ => ?_)
                refine And.intro (fun c => absurd c (by decide)) (fun _ => ?_)
                refine And.intro (fun _ => ?_) (fun c => absurd c (by decide))
                refine And.intro (fun _ => ?_) (fun c => absurd c (by decide))
                refine .inl ?_
                replace h := Option.some.inj h
                subst h
                exact ⟨[.p (B false)], [], ⟨[], ⟨rfl, trivial⟩, trivial, rfl⟩, rfl, rfl, rfl⟩
      · replace h := cT h c
        refine And.intro (fun c => absurd c (by decide)) (fun _ => ?_)
        refine And.intro (fun c => absurd c (by decide)) (fun _ => ?_)
        refine And.intro (fun _ => ?_) (fun c => absurd c (by decide))
        refine And.intro (fun _ => ?_) (fun c => absurd c (by decide))
        refine .inl ?_
        replace h := Option.some.inj h
        subst h
        exact ⟨[.p (B false)], [], ⟨[], ⟨rfl, trivial⟩, trivial, rfl⟩, rfl, rfl, rfl⟩
    · replace h := cT h c
      refine And.intro (fun c => absurd c (by decide)) (fun _ => ?_)
      refine And.intro (fun c => absurd c (by decide)) (fun _ => ?_)
      refine And.intro (fun _ => ?_) (fun c => absurd c (by decide))
      refine And.intro (fun c => absurd c (by decide)) (fun _ => ?_)
      refine And.intro (fun c => absurd c (by decide)) (fun _ => ?_)
      refine And.intro (fun c => absurd c (by decide)) (fun _ => ?_)
      refine And.intro (fun _ => ?_) (fun c => absurd c (by decide))
      refine And.intro (fun _ => ?_) (fun c => absurd c (by decide))
      refine .inl ?_
      replace h := Option.some.inj h
      subst h
      exact ⟨[.p (B false)], [], ⟨[], ⟨rfl, trivial⟩, trivial, rfl⟩, rfl, rfl, rfl⟩
end Go.Proofs.YtnnalcglfgapbaaDoor.Z
