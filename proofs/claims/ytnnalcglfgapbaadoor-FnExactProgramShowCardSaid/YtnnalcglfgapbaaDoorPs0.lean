/- Printed: models and contracts. -/
import Derived.Test.YtnnalcglfgapbaaDoorGvG
set_option linter.unusedVariables false
set_option linter.unusedSimpArgs false
set_option linter.unnecessarySimpa false
set_option maxRecDepth 100000
set_option maxHeartbeats 8000000
namespace Go.Proofs.YtnnalcglfgapbaaDoor.Z
open Go Go.RowKit Go.Proofs.Sy Go.Proofs

def m_laws_szInsS (n : Nat) (a1 : List gIns) (a2 : Int) : Option Int :=
  bif (decide ((wr .i64 (a2 - ((a1.map gIns.enc).length : Int))) < 0)) then (
    some (-1))
  else (
    some (wr .i64 (a2 - ((a1.map gIns.enc).length : Int))))
theorem c_laws_szInsS (n : Nat) (a1 : List gIns) (a2 : Int) (r : Int) (h : m_laws_szInsS n a1 a2 = some r) : FnP Tryd.prog 5 [.lst (a1.map gIns.enc), I a2] [I r] := by
  unfold m_laws_szInsS at h
  refine fn_introJ Tryd.func5 rfl rfl rfl ?_
  refine .inl ?_
  refine .inl ?_
  refine .inl ?_
  refine .inl ?_
  refine And.intro (fun c => ?_) (fun c => ?_)
  · replace h := cT h c
    refine .inl ?_
    replace h := Option.some.inj h
    subst h
    exact ⟨[.p (I (-1))], [], ⟨[], ⟨rfl, trivial⟩, trivial, rfl⟩, rfl, rfl, rfl⟩
  · replace h := cF h c
    refine .inl ?_
    replace h := Option.some.inj h
    subst h
    exact ⟨[.p (I (wr .i64 (a2 - ((a1.map gIns.enc).length : Int))))], [], ⟨[], ⟨rfl, trivial⟩, trivial, rfl⟩, rfl, rfl, rfl⟩
def m_spec_l01Between (n : Nat) (a3 : Int) (a4 : Int) (a5 : Int) : Option Bool :=
  bif (decide (a3 ≥ a4)) then (
    some (decide (a3 ≤ a5)))
  else (
    some false)
theorem c_spec_l01Between (n : Nat) (a3 : Int) (a4 : Int) (a5 : Int) (r : Bool) (h : m_spec_l01Between n a3 a4 a5 = some r) : FnP Tryd.prog 31 [I a3, I a4, I a5] [B r] := by
  unfold m_spec_l01Between at h
  refine fn_introJ Tryd.func31 rfl rfl rfl ?_
  refine .inl ?_
  refine .inl ?_
  refine And.intro (fun c => ?_) (fun c => ?_)
  · replace h := cT h c
    refine And.intro (fun _ => ?_) (fun c => absurd c (by decide))
    refine And.intro (fun _ => ?_) (fun c => absurd c (by decide))
    refine And.intro (fun _ => ?_) (fun c => absurd c (by decide))
    replace h := Option.some.inj h
    subst h
    exact ⟨[.p (B (decide (a3 ≤ a5)))], [], ⟨[], ⟨rfl, trivial⟩, trivial, rfl⟩, rfl, rfl, rfl⟩
  · replace h := cF h c
    refine And.intro (fun c => absurd c (by decide)) (fun _ => ?_)
    refine And.intro (fun c => absurd c (by decide)) (fun _ => ?_)
    refine And.intro (fun c => absurd c (by decide)) (fun _ => ?_)
    replace h := Option.some.inj h
    subst h
    exact ⟨[.p (B false)], [], ⟨[], ⟨rfl, trivial⟩, trivial, rfl⟩, rfl, rfl, rfl⟩
def m_spec_l17HasTo (n : Nat) (a6 : Int) : Option Bool :=
  (m_spec_l01Between n a6 5 8).bind fun r1 =>
  some r1
theorem c_spec_l17HasTo (n : Nat) (a6 : Int) (r : Bool) (h : m_spec_l17HasTo n a6 = some r) : FnP Tryd.prog 32 [I a6] [B r] := by
  unfold m_spec_l17HasTo at h
  refine fn_introJ Tryd.func32 rfl rfl rfl ?_
  refine .inl ?_
  refine .inl ?_
  obtain ⟨r1, hr1, h⟩ := bsm h
  refine callA (c_spec_l01Between n a6 5 8 _ hr1) ?_
  replace h := Option.some.inj h
  subst h
  exact ⟨[.p (B r1)], [], ⟨[], ⟨rfl, trivial⟩, trivial, rfl⟩, rfl, rfl, rfl⟩
def m_spec_l17HasN (n : Nat) (a7 : Int) : Option Bool :=
  (m_spec_l01Between n a7 1 3).bind fun r2 =>
  bif r2 then (
    some true)
  else (
    bif (a7 == 6) then (
      some true)
    else (
      some (a7 == 8)))
theorem c_spec_l17HasN (n : Nat) (a7 : Int) (r : Bool) (h : m_spec_l17HasN n a7 = some r) : FnP Tryd.prog 33 [I a7] [B r] := by
  unfold m_spec_l17HasN at h
  refine fn_introJ Tryd.func33 rfl rfl rfl ?_
  refine .inl ?_
  refine .inl ?_
  obtain ⟨r2, hr2, h⟩ := bsm h
  refine callA (c_spec_l01Between n a7 1 3 _ hr2) ?_
  refine And.intro (fun c => ?_) (fun c => ?_)
  · replace h := cF h c
    refine And.intro (fun _ => ?_) (fun c => absurd c (by decide))
    refine And.intro (fun c => absurd c (by decide)) (fun _ => ?_)
    refine And.intro (fun c => ?_) (fun c => ?_)
    · replace h := cF h c
      refine And.intro (fun _ => ?_) (fun c => absurd c (by decide))
      refine And.intro (fun c => absurd c (by decide)) (fun _ => ?_)
      replace h := Option.some.inj h
      subst h
      exact ⟨[.p (B (a7 == 8))], [], ⟨[], ⟨rfl, trivial⟩, trivial, rfl⟩, rfl, rfl, rfl⟩
    · replace h := cT h c
      refine And.intro (fun c => absurd c (by decide)) (fun _ => ?_)
      refine And.intro (fun _ => ?_) (fun c => absurd c (by decide))
      replace h := Option.some.inj h
      subst h
      exact ⟨[.p (B true)], [], ⟨[], ⟨rfl, trivial⟩, trivial, rfl⟩, rfl, rfl, rfl⟩
  · replace h := cT h c
    refine And.intro (fun c => absurd c (by decide)) (fun _ => ?_)
    refine And.intro (fun _ => ?_) (fun c => absurd c (by decide))
    refine And.intro (fun c => absurd c (by decide)) (fun _ => ?_)
    refine And.intro (fun c => absurd c (by decide)) (fun _ => ?_)
    refine And.intro (fun _ => ?_) (fun c => absurd c (by decide))
    replace h := Option.some.inj h
    subst h
    exact ⟨[.p (B true)], [], ⟨[], ⟨rfl, trivial⟩, trivial, rfl⟩, rfl, rfl, rfl⟩
def m_spec_l17Goes (n : Nat) (a8 : Int) : Option Bool :=
  bif (a8 != 5) then (
    bif (a8 != 9) then (
      some (a8 != 10))
    else (
      some false))
  else (
    some false)
theorem c_spec_l17Goes (n : Nat) (a8 : Int) (r : Bool) (h : m_spec_l17Goes n a8 = some r) : FnP Tryd.prog 34 [I a8] [B r] := by
  unfold m_spec_l17Goes at h
  refine fn_introJ Tryd.func34 rfl rfl rfl ?_
  refine .inl ?_
  refine .inl ?_
  refine And.intro (fun c => ?_) (fun c => ?_)
  · replace h := cT h c
    refine And.intro (fun _ => ?_) (fun c => absurd c (by decide))
    refine And.intro (fun _ => ?_) (fun c => absurd c (by decide))
    refine And.intro (fun c => ?_) (fun c => ?_)
    · replace h := cT h c
      refine And.intro (fun _ => ?_) (fun c => absurd c (by decide))
      refine And.intro (fun _ => ?_) (fun c => absurd c (by decide))
      replace h := Option.some.inj h
      subst h
      exact ⟨[.p (B (a8 != 10))], [], ⟨[], ⟨rfl, trivial⟩, trivial, rfl⟩, rfl, rfl, rfl⟩
    · replace h := cF h c
      refine And.intro (fun c => absurd c (by decide)) (fun _ => ?_)
      refine And.intro (fun c => absurd c (by decide)) (fun _ => ?_)
      replace h := Option.some.inj h
      subst h
      exact ⟨[.p (B false)], [], ⟨[], ⟨rfl, trivial⟩, trivial, rfl⟩, rfl, rfl, rfl⟩
  · replace h := cF h c
    refine And.intro (fun c => absurd c (by decide)) (fun _ => ?_)
    refine And.intro (fun c => absurd c (by decide)) (fun _ => ?_)
    refine And.intro (fun c => absurd c (by decide)) (fun _ => ?_)
    refine And.intro (fun c => absurd c (by decide)) (fun _ => ?_)
    refine And.intro (fun c => absurd c (by decide)) (fun _ => ?_)
    replace h := Option.some.inj h
    subst h
    exact ⟨[.p (B false)], [], ⟨[], ⟨rfl, trivial⟩, trivial, rfl⟩, rfl, rfl, rfl⟩
def m_spec_ProgramOK_j11 (n : Nat) (a9 : List gIns) : Option Bool :=
  (ix a9 (wr .i64 (((a9.map gIns.enc).length : Int) - 1))).bind fun x7 =>
  (m_spec_l17Goes n x7.op_).bind fun r52 =>
  some (!r52)
def m_spec_ProgramOK_j20 (v11 : Int) (rec18 : Int → Option Bool) : Option Bool :=
  rec18 (wr .i64 (v11 + 1))
def m_spec_ProgramOK_j21 (n : Nat) (v11 : Int) (rec18 : Int → Option Bool) (x13 : gIns) (v16 : Int) : Option Bool :=
  (m_spec_l01Between n x13.op_ 1 10).bind fun r96 =>
  bif (!r96) then (
    some false)
  else (
    (m_spec_l01Between n x13.to_ 0 v16).bind fun r97 =>
    bif (!r97) then (
      some false)
    else (
      bif (x13.op_ == 10) then (
        bif (x13.n_ != 2) then (
          bif (x13.n_ != 4) then (
            some false)
          else (
            m_spec_ProgramOK_j20 v11 rec18))
        else (
          m_spec_ProgramOK_j20 v11 rec18))
      else (
        (m_spec_l17HasN n x13.op_).bind fun r98 =>
        bif r98 then (
          (m_spec_l01Between n x13.n_ 0 1000).bind fun r99 =>
          bif (!r99) then (
            some false)
          else (
            m_spec_ProgramOK_j20 v11 rec18))
        else (
          bif (x13.n_ != 0) then (
            some false)
          else (
            m_spec_ProgramOK_j20 v11 rec18)))))
def m_spec_ProgramOK_l18 (n : Nat) (a9 : List gIns) : Nat → Int → Option Bool
  | 0, _ => none
  | k18 + 1, v11 =>
    bif (decide (v11 < ((a9.map gIns.enc).length : Int))) then (
      (ix a9 v11).bind fun x13 =>
      (m_spec_l17HasTo n x13.op_).bind fun r100 =>
      bif r100 then (
        m_spec_ProgramOK_j21 n v11 (m_spec_ProgramOK_l18 n a9 k18) x13 (wr .i64 (((a9.map gIns.enc).length : Int) - 1)))
      else (
        m_spec_ProgramOK_j21 n v11 (m_spec_ProgramOK_l18 n a9 k18) x13 0))
    else (
      m_spec_ProgramOK_j11 n a9)
def m_spec_ProgramOK (n : Nat) (a9 : List gIns) : Option Bool :=
  (m_spec_l01Between n ((a9.map gIns.enc).length : Int) 1 50000).bind fun r3 =>
  bif (!r3) then (
    some false)
  else (
    m_spec_ProgramOK_l18 n a9 n 0)
theorem c_spec_ProgramOK (n : Nat) (a9 : List gIns) (r : Bool) (h : m_spec_ProgramOK n a9 = some r) : FnP Tryd.prog 14 [.lst (a9.map gIns.enc)] [B r] := by
  unfold m_spec_ProgramOK at h
  refine fn_introJ Tryd.func14 rfl rfl rfl ?_
  refine .inl ?_
  refine .inl ?_
  refine .inl ?_
  obtain ⟨r3, hr3, h⟩ := bsm h
  refine callA (c_spec_l01Between n ((a9.map gIns.enc).length : Int) 1 50000 _ hr3) ?_
  refine And.intro (fun c => ?_) (fun c => ?_)
  · replace h := cT h c
    refine .inl ?_
    replace h := Option.some.inj h
    subst h
    exact ⟨[.p (B false)], [], ⟨[], ⟨rfl, trivial⟩, trivial, rfl⟩, rfl, rfl, rfl⟩
  · replace h := cF h c
    refine .inr ⟨Unit, fun x => ([(0, .p (.lst (a9.map gIns.enc)))], []), fun x => m_spec_ProgramOK_j11 n a9 = some r, ?_, ?_⟩
    · refine .inl ?_
      refine ⟨Int, fun x => ([(0, .p (.lst (a9.map gIns.enc))), (3, .p (I x))], []), fun x k => m_spec_ProgramOK_l18 n a9 k x = some r, ⟨0, n, h, [], ⟨rfl, rfl, trivial⟩, trivial, rfl⟩, ?_⟩
      rintro v11 (_ | k18) h
      · exact ns h
      unfold m_spec_ProgramOK_l18 at h
      refine .inl ?_
      refine .inl ?_
      refine And.intro (fun c => ?_) (fun c => ?_)
      · replace h := cT h c
        refine .inr ⟨Unit, fun x => ([(0, .p (.lst (a9.map gIns.enc))), (3, .p (I v11))], []), fun x => m_spec_ProgramOK_j20 v11 (m_spec_ProgramOK_l18 n a9 k18) = some r, ?_, ?_⟩
        · refine .inl ?_
          obtain ⟨x13, hx13, h⟩ := bsm h
          refine And.intro (ix0 hx13) (Exists.intro _ (And.intro (gm (ixg hx13)) (And.intro rfl ?_)))
          refine .inl ?_
          refine .inr ⟨Int, fun x => ([(0, .p (.lst (a9.map gIns.enc))), (3, .p (I v11)), (4, .ptr 0 0), (5, .p (I x))], [.box 38 [.p (I x13.op_), .p (I x13.n_), .p (I x13.to_)]]), fun x => m_spec_ProgramOK_j21 n v11 (m_spec_ProgramOK_l18 n a9 k18) x13 x = some r, ?_, ?_⟩
          · refine .inl ?_
            obtain ⟨r100, hr100, h⟩ := bsm h
            refine callA (c_spec_l17HasTo n x13.op_ _ hr100) ?_
            refine And.intro (fun c => ?_) (fun c => ?_)
            · replace h := cT h c
              exact ⟨(wr .i64 (((a9.map gIns.enc).length : Int) - 1)), h, [], ⟨rfl, rfl, rfl, rfl, trivial⟩, ⟨⟨rfl, rfl, rfl, rfl, trivial⟩, trivial⟩, rfl⟩
            · replace h := cF h c
              exact ⟨0, h, [], ⟨rfl, rfl, rfl, rfl, trivial⟩, ⟨⟨rfl, rfl, rfl, rfl, trivial⟩, trivial⟩, rfl⟩
          · rintro v16 h
            unfold m_spec_ProgramOK_j21 at h
            refine .inl ?_
            refine .inl ?_
            obtain ⟨r96, hr96, h⟩ := bsm h
            refine callA (c_spec_l01Between n x13.op_ 1 10 _ hr96) ?_
            refine And.intro (fun c => ?_) (fun c => ?_)
            · replace h := cF h c
              refine And.intro (fun _ => ?_) (fun c => absurd c (by decide))
              refine And.intro (fun _ => ?_) (fun c => absurd c (by decide))
              refine And.intro (fun _ => ?_) (fun c => absurd c (by decide))
              obtain ⟨r97, hr97, h⟩ := bsm h
              refine callA (c_spec_l01Between n x13.to_ 0 v16 _ hr97) ?_
              refine And.intro (fun _ => ?_) (fun c => absurd c (by decide))
              refine And.intro (fun c => absurd c (by decide)) (fun _ => ?_)
              refine And.intro (fun c => ?_) (fun c => ?_)
              · replace h := cT h c
                refine .inl ?_
                replace h := Option.some.inj h
                subst h
                exact ⟨[.p (B false)], [], ⟨[], ⟨rfl, trivial⟩, trivial, rfl⟩, rfl, rfl, rfl⟩
              · replace h := cF h c
                refine .inl ?_
                refine And.intro (fun c => ?_) (fun c => ?_)
                · replace h := cT h c
                  refine .inl ?_
                  refine And.intro (fun c => ?_) (fun c => ?_)
                  · replace h := cT h c
                    refine And.intro (fun _ => ?_) (fun c => absurd c (by decide))
                    refine And.intro (fun _ => ?_) (fun c => absurd c (by decide))
                    refine And.intro (fun _ => ?_) (fun c => absurd c (by decide))
                    refine And.intro (fun c => ?_) (fun c => ?_)
                    · replace h := cT h c
                      refine .inl ?_
                      replace h := Option.some.inj h
                      subst h
                      exact ⟨[.p (B false)], [], ⟨[], ⟨rfl, trivial⟩, trivial, rfl⟩, rfl, rfl, rfl⟩
                    · replace h := cF h c
                      exact ⟨(), h, [], ⟨rfl, rfl, trivial⟩, trivial, rfl⟩
                  · replace h := cF h c
                    refine And.intro (fun c => absurd c (by decide)) (fun _ => ?_)
                    refine And.intro (fun c => absurd c (by decide)) (fun _ => ?_)
                    refine And.intro (fun c => absurd c (by decide)) (fun _ => ?_)
                    refine And.intro (fun c => absurd c (by decide)) (fun _ => ?_)
                    exact ⟨(), h, [], ⟨rfl, rfl, trivial⟩, trivial, rfl⟩
                · replace h := cF h c
                  refine .inl ?_
                  obtain ⟨r98, hr98, h⟩ := bsm h
                  refine callA (c_spec_l17HasN n x13.op_ _ hr98) ?_
                  refine And.intro (fun c => ?_) (fun c => ?_)
                  · replace h := cT h c
                    refine .inl ?_
                    obtain ⟨r99, hr99, h⟩ := bsm h
                    refine callA (c_spec_l01Between n x13.n_ 0 1000 _ hr99) ?_
                    refine And.intro (fun c => ?_) (fun c => ?_)
                    · replace h := cT h c
                      refine .inl ?_
                      replace h := Option.some.inj h
                      subst h
                      exact ⟨[.p (B false)], [], ⟨[], ⟨rfl, trivial⟩, trivial, rfl⟩, rfl, rfl, rfl⟩
                    · replace h := cF h c
                      exact ⟨(), h, [], ⟨rfl, rfl, trivial⟩, trivial, rfl⟩
                  · replace h := cF h c
                    refine .inl ?_
                    refine And.intro (fun c => ?_) (fun c => ?_)
                    · replace h := cT h c
                      refine .inl ?_
                      replace h := Option.some.inj h
                      subst h
                      exact ⟨[.p (B false)], [], ⟨[], ⟨rfl, trivial⟩, trivial, rfl⟩, rfl, rfl, rfl⟩
                    · replace h := cF h c
                      exact ⟨(), h, [], ⟨rfl, rfl, trivial⟩, trivial, rfl⟩
            · replace h := cT h c
              refine And.intro (fun c => absurd c (by decide)) (fun _ => ?_)
              refine And.intro (fun c => absurd c (by decide)) (fun _ => ?_)
              refine And.intro (fun c => absurd c (by decide)) (fun _ => ?_)
              refine And.intro (fun c => absurd c (by decide)) (fun _ => ?_)
              refine And.intro (fun _ => ?_) (fun c => absurd c (by decide))
              refine And.intro (fun _ => ?_) (fun c => absurd c (by decide))
              refine .inl ?_
              replace h := Option.some.inj h
              subst h
              exact ⟨[.p (B false)], [], ⟨[], ⟨rfl, trivial⟩, trivial, rfl⟩, rfl, rfl, rfl⟩
        · rintro _ h
          unfold m_spec_ProgramOK_j20 at h
          exact ⟨(wr .i64 (v11 + 1)), k18, h, Nat.lt_succ_self _, [], ⟨rfl, rfl, trivial⟩, trivial, rfl⟩
      · replace h := cF h c
        exact ⟨(), h, [], ⟨rfl, trivial⟩, trivial, rfl⟩
    · rintro _ h
      unfold m_spec_ProgramOK_j11 at h
      refine .inl ?_
      obtain ⟨x7, hx7, h⟩ := bsm h
      refine And.intro (ix0 hx7) (Exists.intro _ (And.intro (gm (ixg hx7)) (And.intro rfl ?_)))
      obtain ⟨r52, hr52, h⟩ := bsm h
      refine callA (c_spec_l17Goes n x7.op_ _ hr52) ?_
      replace h := Option.some.inj h
      subst h
      exact ⟨[.p (B (!r52))], [], ⟨[], ⟨rfl, trivial⟩, trivial, rfl⟩, rfl, rfl, rfl⟩
def m_spec_l17Word (n : Nat) (a10 : Int) : Option ByteArray :=
  (ix ([⟨#[]⟩, ⟨#[112, 117, 115, 104]⟩, ⟨#[100, 114, 111, 112]⟩, ⟨#[116, 101, 108, 108]⟩, ⟨#[112, 97, 115, 115]⟩, ⟨#[106, 117, 109, 112]⟩, ⟨#[105, 102, 110, 101, 120, 116]⟩, ⟨#[105, 102, 101, 110, 100]⟩, ⟨#[105, 102, 116, 111, 112]⟩, ⟨#[100, 111, 110, 101]⟩, ⟨#[102, 97, 105, 108]⟩]) a10).bind fun x14 =>
  some x14
theorem c_spec_l17Word (n : Nat) (a10 : Int) (r : ByteArray) (h : m_spec_l17Word n a10 = some r) : FnP Tryd.prog 35 [I a10] [S r] := by
  unfold m_spec_l17Word at h
  refine fn_introJ Tryd.func35 rfl rfl rfl ?_
  refine .inl ?_
  refine .inl ?_
  refine And.intro (show fits _ _ from ⟨⟨rfl, rfl⟩, ⟨⟨rfl, rfl⟩, ⟨⟨rfl, rfl⟩, ⟨⟨rfl, rfl⟩, ⟨⟨rfl, rfl⟩, ⟨⟨rfl, rfl⟩, ⟨⟨rfl, rfl⟩, ⟨⟨rfl, rfl⟩, ⟨⟨rfl, rfl⟩, ⟨⟨rfl, rfl⟩, ⟨⟨rfl, rfl⟩, trivial⟩⟩⟩⟩⟩⟩⟩⟩⟩⟩⟩) ?_
  obtain ⟨x14, hx14, h⟩ := bsm h
  refine And.intro (by have q := ixr hx14; simp at q ⊢; omega) ?_
  refine Exists.intro _ (And.intro (gz (gc (show [S ⟨#[]⟩, S ⟨#[112, 117, 115, 104]⟩, S ⟨#[100, 114, 111, 112]⟩, S ⟨#[116, 101, 108, 108]⟩, S ⟨#[112, 97, 115, 115]⟩, S ⟨#[106, 117, 109, 112]⟩, S ⟨#[105, 102, 110, 101, 120, 116]⟩, S ⟨#[105, 102, 101, 110, 100]⟩, S ⟨#[105, 102, 116, 111, 112]⟩, S ⟨#[100, 111, 110, 101]⟩, S ⟨#[102, 97, 105, 108]⟩] = ([⟨#[]⟩, ⟨#[112, 117, 115, 104]⟩, ⟨#[100, 114, 111, 112]⟩, ⟨#[116, 101, 108, 108]⟩, ⟨#[112, 97, 115, 115]⟩, ⟨#[106, 117, 109, 112]⟩, ⟨#[105, 102, 110, 101, 120, 116]⟩, ⟨#[105, 102, 101, 110, 100]⟩, ⟨#[105, 102, 116, 111, 112]⟩, ⟨#[100, 111, 110, 101]⟩, ⟨#[102, 97, 105, 108]⟩] : List ByteArray).map S by simp) (gm (ixg hx14)))) ?_)
  replace h := Option.some.inj h
  subst h
  exact ⟨[.p (S x14)], [], ⟨[], ⟨rfl, trivial⟩, trivial, rfl⟩, rfl, rfl, rfl⟩
def m_spec_l01Digits : Nat → Int → Option ByteArray
  | 0, _ => none
  | n + 1, a11 =>
    bif (decide (a11 < 0)) then (
      ((m_spec_l01Digits n) (wr .i64 (0 - a11))).bind fun r101 =>
      gp ((((⟨#[45]⟩ : ByteArray).size + r101.size : Nat) : Int) ≤ 9223372036854775807) <|
      some ((⟨#[45]⟩ : ByteArray) ++ r101))
    else (
      bif (decide (a11 < 10)) then (
        (toU8 (wr .u8 (wr .i64 (48 + a11)))).bind fun u1 =>
        some (ofL [u1]))
      else (
        ((m_spec_l01Digits n) (wr .i64 (a11.tdiv 10))).bind fun r104 =>
        (toU8 (wr .u8 (wr .i64 (48 + (a11.tmod 10))))).bind fun u4 =>
        gp (((r104.size + (ofL [u4]).size : Nat) : Int) ≤ 9223372036854775807) <|
        some (r104 ++ (ofL [u4]))))
theorem c_spec_l01Digits : ∀ (n : Nat) (a11 : Int) (r : ByteArray) (h : m_spec_l01Digits n a11 = some r), FnP Tryd.prog 36 [I a11] [S r]
  | 0, _, r, h => ns h
  | n + 1, a11, r, h => by
    have ih_spec_l01Digits := c_spec_l01Digits n
    unfold m_spec_l01Digits at h
    refine fn_introJ Tryd.func36 rfl rfl rfl ?_
    refine .inl ?_
    refine .inl ?_
    refine .inl ?_
    refine And.intro (fun c => ?_) (fun c => ?_)
    · replace h := cT h c
      refine .inl ?_
      obtain ⟨r101, hr101, h⟩ := bsm h
      refine callA (ih_spec_l01Digits (wr .i64 (0 - a11)) _ hr101) ?_
      obtain ⟨g1, h⟩ := gpT h
      refine And.intro g1 ?_
      replace h := Option.some.inj h
      subst h
      exact ⟨[.p (S ((⟨#[45]⟩ : ByteArray) ++ r101))], [], ⟨[], ⟨rfl, trivial⟩, trivial, rfl⟩, rfl, rfl, rfl⟩
    · replace h := cF h c
      refine .inl ?_
      refine .inl ?_
      refine And.intro (fun c => ?_) (fun c => ?_)
      · replace h := cT h c
        refine .inl ?_
        obtain ⟨u1, hu1, h⟩ := bsm h
        have eu1 := toU8_ok hu1
        refine And.intro (show fits _ _ from ⟨⟨rfl, rfl⟩, trivial⟩) ?_
        refine Exists.intro _ (And.intro (rowN (show [.raw (.int .u8 (wr .u8 (wr .i64 (48 + a11))))] = bl [u1] by simp [eu1]) (show 1 = (bl [u1]).length by simp [eu1])) ?_)
        refine Exists.intro (ofL [u1]) (And.intro (bl_bytes [u1]) ?_)
        replace h := Option.some.inj h
        subst h
        exact ⟨[.p (S (ofL [u1]))], [], ⟨[], ⟨rfl, trivial⟩, trivial, rfl⟩, rfl, rfl, rfl⟩
      · replace h := cF h c
        refine .inl ?_
        refine ⟨[0, 1, 3, 4, 5, 6, 5000, 2, 7, 8, 9, 10, 7, 8, 2, 9, 10], [], by decide +kernel, ?_⟩
        obtain ⟨r104, hr104, h⟩ := bsm h
        obtain ⟨u4, hu4, h⟩ := bsm h
        obtain ⟨g4, h⟩ := gpT h
        refine And.intro (by decide) ?_
        refine And.intro (by decide) ?_
        refine And.intro ?_ ?_
        · skip
          refine callA (ih_spec_l01Digits (wr .i64 (a11.tdiv 10)) _ hr104) ?_
          have eu4 := toU8_ok hu4
          refine And.intro (show fits _ _ from ⟨⟨rfl, rfl⟩, trivial⟩) ?_
          refine Exists.intro _ (And.intro (rowN (show [.raw (.int .u8 (wr .u8 (wr .i64 (48 + (a11.tmod 10)))))] = bl [u4] by simp [eu4]) (show 1 = (bl [u4]).length by simp [eu4])) ?_)
          refine Exists.intro (ofL [u4]) (And.intro (bl_bytes [u4]) ?_)
          refine And.intro g4 ?_
          replace h := Option.some.inj h
          subst h
          exact ⟨[.p (S (r104 ++ (ofL [u4])))], [], ⟨[], ⟨rfl, trivial⟩, trivial, rfl⟩, rfl, rfl, rfl⟩
        · skip
          have eu5 := toU8_ok hu4
          refine And.intro (show fits _ _ from ⟨⟨rfl, rfl⟩, trivial⟩) ?_
          refine Exists.intro _ (And.intro (rowN (show [.raw (.int .u8 (wr .u8 (wr .i64 (48 + (a11.tmod 10)))))] = bl [u4] by simp [eu5]) (show 1 = (bl [u4]).length by simp [eu5])) ?_)
          refine Exists.intro (ofL [u4]) (And.intro (bl_bytes [u4]) ?_)
          refine callA (ih_spec_l01Digits (wr .i64 (a11.tdiv 10)) _ hr104) ?_
          refine And.intro g4 ?_
          replace h := Option.some.inj h
          subst h
          exact ⟨[.p (S (r104 ++ (ofL [u4])))], [], ⟨[], ⟨rfl, trivial⟩, trivial, rfl⟩, rfl, rfl, rfl⟩
def m_spec_l17Line_j2 (n : Nat) (a12 : gIns) (v18 : ByteArray) : Option ByteArray :=
  (m_spec_l17HasTo n a12.op_).bind fun r110 =>
  bif r110 then (
    gp (((v18.size + (⟨#[32]⟩ : ByteArray).size : Nat) : Int) ≤ 9223372036854775807) <|
    (m_spec_l01Digits n a12.to_).bind fun r111 =>
    gp ((((v18 ++ (⟨#[32]⟩ : ByteArray)).size + r111.size : Nat) : Int) ≤ 9223372036854775807) <|
    some ((v18 ++ (⟨#[32]⟩ : ByteArray)) ++ r111))
  else (
    some v18)
def m_spec_l17Line_j3 (n : Nat) (a12 : gIns) (r106 : ByteArray) (v19 : Bool) : Option ByteArray :=
  bif v19 then (
    gp (((r106.size + (⟨#[32]⟩ : ByteArray).size : Nat) : Int) ≤ 9223372036854775807) <|
    (m_spec_l01Digits n a12.n_).bind fun r113 =>
    gp ((((r106 ++ (⟨#[32]⟩ : ByteArray)).size + r113.size : Nat) : Int) ≤ 9223372036854775807) <|
    m_spec_l17Line_j2 n a12 ((r106 ++ (⟨#[32]⟩ : ByteArray)) ++ r113))
  else (
    m_spec_l17Line_j2 n a12 r106)
def m_spec_l17Line (n : Nat) (a12 : gIns) : Option ByteArray :=
  (m_spec_l17Word n a12.op_).bind fun r106 =>
  (m_spec_l17HasN n a12.op_).bind fun r114 =>
  bif r114 then (
    m_spec_l17Line_j3 n a12 r106 true)
  else (
    m_spec_l17Line_j3 n a12 r106 (a12.op_ == 10))
theorem c_spec_l17Line (n : Nat) (a12 : gIns) (r : ByteArray) (h : m_spec_l17Line n a12 = some r) : FnP Tryd.prog 15 [a12.enc] [S r] := by
  unfold m_spec_l17Line at h
  refine fn_introJ Tryd.func15 rfl rfl rfl ?_
  refine .inl ?_
  refine .inl ?_
  obtain ⟨r106, hr106, h⟩ := bsm h
  refine callA (c_spec_l17Word n a12.op_ _ hr106) ?_
  refine .inr ⟨ByteArray, fun x => ([(1, .ptr 0 0), (3, .p (S x))], [.box 38 [.p (I a12.op_), .p (I a12.n_), .p (I a12.to_)]]), fun x => m_spec_l17Line_j2 n a12 x = some r, ?_, ?_⟩
  · refine .inr ⟨Bool, fun x => ([(1, .ptr 0 0), (3, .p (S r106)), (14, .p (B x))], [.box 38 [.p (I a12.op_), .p (I a12.n_), .p (I a12.to_)]]), fun x => m_spec_l17Line_j3 n a12 r106 x = some r, ?_, ?_⟩
    · obtain ⟨r114, hr114, h⟩ := bsm h
      refine callA (c_spec_l17HasN n a12.op_ _ hr114) ?_
      refine And.intro (fun c => ?_) (fun c => ?_)
      · replace h := cF h c
        refine And.intro (fun _ => ?_) (fun c => absurd c (by decide))
        refine And.intro (fun _ => ?_) (fun c => absurd c (by decide))
        refine And.intro (fun c => absurd c (by decide)) (fun _ => ?_)
        exact ⟨(a12.op_ == 10), h, [], ⟨rfl, rfl, rfl, trivial⟩, ⟨⟨rfl, rfl, rfl, rfl, trivial⟩, trivial⟩, rfl⟩
      · replace h := cT h c
        refine And.intro (fun c => absurd c (by decide)) (fun _ => ?_)
        refine And.intro (fun c => absurd c (by decide)) (fun _ => ?_)
        refine And.intro (fun _ => ?_) (fun c => absurd c (by decide))
        exact ⟨true, h, [], ⟨rfl, rfl, rfl, trivial⟩, ⟨⟨rfl, rfl, rfl, rfl, trivial⟩, trivial⟩, rfl⟩
    · rintro v19 h
      unfold m_spec_l17Line_j3 at h
      refine And.intro (fun c => ?_) (fun c => ?_)
      · replace h := cT h c
        obtain ⟨g6, h⟩ := gpT h
        refine And.intro g6 ?_
        obtain ⟨r113, hr113, h⟩ := bsm h
        refine callA (c_spec_l01Digits n a12.n_ _ hr113) ?_
        obtain ⟨g5, h⟩ := gpT h
        refine And.intro g5 ?_
        exact ⟨((r106 ++ (⟨#[32]⟩ : ByteArray)) ++ r113), h, [], ⟨rfl, rfl, trivial⟩, ⟨⟨rfl, rfl, rfl, rfl, trivial⟩, trivial⟩, rfl⟩
      · replace h := cF h c
        exact ⟨r106, h, [], ⟨rfl, rfl, trivial⟩, ⟨⟨rfl, rfl, rfl, rfl, trivial⟩, trivial⟩, rfl⟩
  · rintro v18 h
    unfold m_spec_l17Line_j2 at h
    refine .inl ?_
    refine .inl ?_
    obtain ⟨r110, hr110, h⟩ := bsm h
    refine callA (c_spec_l17HasTo n a12.op_ _ hr110) ?_
    refine And.intro (fun c => ?_) (fun c => ?_)
    · replace h := cT h c
      obtain ⟨g4, h⟩ := gpT h
      refine And.intro g4 ?_
      obtain ⟨r111, hr111, h⟩ := bsm h
      refine callA (c_spec_l01Digits n a12.to_ _ hr111) ?_
      obtain ⟨g3, h⟩ := gpT h
      refine And.intro g3 ?_
      refine .inl ?_
      replace h := Option.some.inj h
      subst h
      exact ⟨[.p (S ((v18 ++ (⟨#[32]⟩ : ByteArray)) ++ r111))], [], ⟨[], ⟨rfl, trivial⟩, trivial, rfl⟩, rfl, rfl, rfl⟩
    · replace h := cF h c
      refine .inl ?_
      replace h := Option.some.inj h
      subst h
      exact ⟨[.p (S v18)], [], ⟨[], ⟨rfl, trivial⟩, trivial, rfl⟩, rfl, rfl, rfl⟩
def m_spec_ProgramShow_j2 (v24 : List UInt8) : Option (ByteArray × Int) :=
  bif (decide (((v24.length : Nat) : Int) > 400000)) then (
    some (⟨#[]⟩, 3))
  else (
    some ((ofL v24), 0))
def m_spec_ProgramShow_l3 (n : Nat) (a13 : List gIns) : Nat → Int → List UInt8 → Option (ByteArray × Int)
  | 0, _, _ => none
  | k3 + 1, v25, v26 =>
    bif (decide (v25 < ((a13.map gIns.enc).length : Int))) then (
      (ix a13 v25).bind fun x20 =>
      (m_spec_l17Line n x20).bind fun r121 =>
      gp (v26.length + r121.data.toList.length ≤ 68719476736) <|
      gp ((v26 ++ r121.data.toList).length + ([10] : List UInt8).length ≤ 68719476736) <|
      (m_spec_ProgramShow_l3 n a13 k3) (wr .i64 (v25 + 1)) ((v26 ++ r121.data.toList) ++ [10]))
    else (
      m_spec_ProgramShow_j2 v26)
def m_spec_ProgramShow (n : Nat) (a13 : List gIns) : Option (ByteArray × Int) :=
  (m_spec_ProgramOK n a13).bind fun r115 =>
  bif (!r115) then (
    some (⟨#[]⟩, 1))
  else (
    m_spec_ProgramShow_l3 n a13 n 0 [])
theorem c_spec_ProgramShow (n : Nat) (a13 : List gIns) (r : ByteArray × Int) (h : m_spec_ProgramShow n a13 = some r) : FnP Tryd.prog 6 [.lst (a13.map gIns.enc)] [S r.1, I r.2] := by
  unfold m_spec_ProgramShow at h
  refine fn_introJ Tryd.func6 rfl rfl rfl ?_
  refine .inl ?_
  refine .inl ?_
  refine .inl ?_
  obtain ⟨r115, hr115, h⟩ := bsm h
  refine callA (c_spec_ProgramOK n a13 _ hr115) ?_
  refine And.intro (fun c => ?_) (fun c => ?_)
  · replace h := cT h c
    refine .inl ?_
    replace h := Option.some.inj h
    subst h
    exact ⟨[.p (S ⟨#[]⟩), .p (I 1)], [], ⟨[], ⟨rfl, rfl, trivial⟩, trivial, rfl⟩, rfl, rfl, rfl⟩
  · replace h := cF h c
    refine .inl ?_
    refine And.intro (show fits _ _ from trivial) ?_
    refine .inr ⟨List UInt8, fun x => ([(4, .row 0 1 0 x.length)], [.row 5 1 (bl x)]), fun x => m_spec_ProgramShow_j2 x = some r, ?_, ?_⟩
    · refine .inl ?_
      refine ⟨Int × List UInt8, fun x => ([(0, .p (.lst (a13.map gIns.enc))), (4, .row 0 1 0 x.2.length), (5, .p (I x.1))], [.row 5 1 (bl x.2)]), fun x k => m_spec_ProgramShow_l3 n a13 k x.1 x.2 = some r, ⟨(0, []), n, h, [], ⟨rfl, (congrArg (AV.row 0 1 0) (show [].length = 0 by first | (simp; done) | (simp; omega))), rfl, trivial⟩, ⟨(congrArg (Bk.row 5 1) (show bl [] = [] by simp)), trivial⟩, rfl⟩, ?_⟩
      rintro ⟨v25, v26⟩ (_ | k3) h
      · exact ns h
      unfold m_spec_ProgramShow_l3 at h
      refine .inl ?_
      refine .inl ?_
      refine And.intro (fun c => ?_) (fun c => ?_)
      · replace h := cT h c
        refine .inl ?_
        refine .inl ?_
        obtain ⟨x20, hx20, h⟩ := bsm h
        refine And.intro (ix0 hx20) (Exists.intro _ (And.intro (gm (ixg hx20)) (And.intro rfl ?_)))
        obtain ⟨r121, hr121, h⟩ := bsm h
        refine callA (c_spec_l17Line n x20 _ hr121) ?_
        obtain ⟨g12, h⟩ := gpT h
        refine Exists.intro (bl v26) (And.intro (rowX (rowN rfl (show v26.length = (bl v26).length by simp)) bytes_fits (appfitJ (by first | simpa using g12 | (simp at g12 ⊢; omega)) rfl)) ?_)
        refine And.intro (show fits _ _ from ⟨⟨rfl, rfl⟩, trivial⟩) ?_
        obtain ⟨g11, h⟩ := gpT h
        refine Exists.intro ([.raw (.int .u8 10)]) (And.intro (rowN rfl rfl) ?_)
        refine Exists.intro (bl (v26 ++ r121.data.toList)) (And.intro (rowX (rowN (show (bl v26) ++ (bytesL r121) = bl (v26 ++ r121.data.toList) by simp) (show (v26.length + (bytesL r121 : List PV).length) = (bl (v26 ++ r121.data.toList)).length by simp)) (show fits _ _ from ⟨⟨rfl, rfl⟩, trivial⟩) (appfitJ (by first | simpa using g11 | (simp at g11 ⊢; omega)) rfl)) ?_)
        exact ⟨((wr .i64 (v25 + 1)), ((v26 ++ r121.data.toList) ++ [10])), k3, h, Nat.lt_succ_self _, [], ⟨rfl, (congrArg (AV.row 0 1 0) (show ((v26 ++ r121.data.toList) ++ [10]).length = ((v26.length + (bytesL r121 : List PV).length) + ([.raw (.int .u8 10)] : List PV).length) by first | (simp; done) | (simp; omega))), rfl, trivial⟩, ⟨(congrArg (Bk.row 5 1) (show bl ((v26 ++ r121.data.toList) ++ [10]) = (bl (v26 ++ r121.data.toList)) ++ [.raw (.int .u8 10)] by simp)), trivial⟩, rfl⟩
      · replace h := cF h c
        exact ⟨v26, h, [], ⟨rfl, trivial⟩, ⟨rfl, trivial⟩, rfl⟩
    · rintro v24 h
      unfold m_spec_ProgramShow_j2 at h
      refine .inl ?_
      refine .inl ?_
      refine And.intro (fun c => ?_) (fun c => ?_)
      · replace h := cT h c
        refine .inl ?_
        replace h := Option.some.inj h
        subst h
        exact ⟨[.p (S ⟨#[]⟩), .p (I 3)], [], ⟨[], ⟨rfl, rfl, trivial⟩, trivial, rfl⟩, rfl, rfl, rfl⟩
      · replace h := cF h c
        refine .inl ?_
        refine Exists.intro _ (And.intro (rowN rfl (show v24.length = (bl v24).length by simp)) ?_)
        refine Exists.intro (ofL v24) (And.intro (bl_bytes v24) ?_)
        replace h := Option.some.inj h
        subst h
        exact ⟨[.p (S (ofL v24)), .p (I 0)], [], ⟨[], ⟨rfl, rfl, trivial⟩, trivial, rfl⟩, rfl, rfl, rfl⟩
def m_laws_toIns (n : Nat) (a14 : gIns) : Option gIns :=
  some a14
theorem c_laws_toIns (n : Nat) (a14 : gIns) (r : gIns) (h : m_laws_toIns n a14 = some r) : FnP Tryd.prog 16 [a14.enc] [r.enc] := by
  unfold m_laws_toIns at h
  refine fn_introJ Tryd.func16 rfl rfl rfl ?_
  refine .inl ?_
  refine .inl ?_
  refine .inl ?_
  refine .inl ?_
  refine .inl ?_
  refine .inl ?_
  replace h := Option.some.inj h
  subst h
  exact ⟨[.p (a14.enc)], [], ⟨[], ⟨rfl, trivial⟩, trivial, rfl⟩, rfl, rfl, rfl⟩
def m_laws_toInsS_j2 (v33 : List gIns) : Option (List gIns) :=
  some v33
def m_laws_toInsS_l3 (n : Nat) (a15 : List gIns) : Nat → Int → List gIns → Option (List gIns)
  | 0, _, _ => none
  | k3 + 1, v34, v35 =>
    bif (decide (v34 < ((a15.map gIns.enc).length : Int))) then (
      (ix a15 v34).bind fun x31 =>
      (m_laws_toIns n x31).bind fun r127 =>
      (ix v35 v34).bind fun x32 =>
      (m_laws_toInsS_l3 n a15 k3) (wr .i64 (v34 + 1)) (v35.set v34.toNat r127))
    else (
      m_laws_toInsS_j2 v35)
def m_laws_toInsS (n : Nat) (a15 : List gIns) : Option (List gIns) :=
  gp (0 ≤ ((a15.map gIns.enc).length : Int) ∧ ((a15.map gIns.enc).length : Int) ≤ ((a15.map gIns.enc).length : Int) ∧ ((a15.map gIns.enc).length : Int) ≤ 68719476736) <|
  m_laws_toInsS_l3 n a15 n 0 (List.replicate ((a15.map gIns.enc).length : Int).toNat (gIns.mk 0 0 0))
theorem c_laws_toInsS (n : Nat) (a15 : List gIns) (r : List gIns) (h : m_laws_toInsS n a15 = some r) : FnP Tryd.prog 7 [.lst (a15.map gIns.enc)] [.lst (r.map gIns.enc)] := by
  unfold m_laws_toInsS at h
  refine fn_introJ Tryd.func7 rfl rfl rfl ?_
  refine .inl ?_
  refine .inl ?_
  obtain ⟨g1, h⟩ := gpT h
  refine And.intro ⟨rfl, g1.1, g1.2.1, mkfit g1.2.2 rfl, by omega⟩ ?_
  refine .inr ⟨List gIns, fun x => ([(3, .row 0 3 0 x.length)], [.row 38 3 (x.map gIns.enc)]), fun x => m_laws_toInsS_j2 x = some r, ?_, ?_⟩
  · refine .inl ?_
    refine ⟨Int × List gIns, fun x => ([(0, .p (.lst (a15.map gIns.enc))), (3, .row 0 3 0 x.2.length), (4, .p (I x.1))], [.row 38 3 (x.2.map gIns.enc)]), fun x k => m_laws_toInsS_l3 n a15 k x.1 x.2 = some r, ⟨(0, (List.replicate ((a15.map gIns.enc).length : Int).toNat (gIns.mk 0 0 0))), n, h, [], ⟨rfl, (congrArg (AV.row 0 3 0) (show (List.replicate ((a15.map gIns.enc).length : Int).toNat (gIns.mk 0 0 0)).length = ((a15.map gIns.enc).length : Int).toNat by first | (simp; done) | (simp; omega))), rfl, trivial⟩, ⟨(congrArg (Bk.row 38 3) (show (List.replicate ((a15.map gIns.enc).length : Int).toNat (gIns.mk 0 0 0)).map gIns.enc = List.replicate ((a15.map gIns.enc).length : Int).toNat ((gIns.mk 0 0 0).enc) by simp)), trivial⟩, rfl⟩, ?_⟩
    rintro ⟨v34, v35⟩ (_ | k3) h
    · exact ns h
    unfold m_laws_toInsS_l3 at h
    refine .inl ?_
    refine .inl ?_
    refine And.intro (fun c => ?_) (fun c => ?_)
    · replace h := cT h c
      refine .inl ?_
      obtain ⟨x31, hx31, h⟩ := bsm h
      refine And.intro (ix0 hx31) (Exists.intro _ (And.intro (gm (ixg hx31)) (And.intro rfl ?_)))
      obtain ⟨r127, hr127, h⟩ := bsm h
      refine callA (c_laws_toIns n x31 _ hr127) ?_
      obtain ⟨x32, hx32, h⟩ := bsm h
      refine And.intro (ixr hx32) ?_
      refine And.intro ⟨(by have q := ixl hx32; simp at q ⊢; omega), ⟨rfl, rfl⟩, rfl⟩ ?_
      exact ⟨((wr .i64 (v34 + 1)), (v35.set v34.toNat r127)), k3, h, Nat.lt_succ_self _, [], ⟨rfl, (congrArg (AV.row 0 3 0) (show (v35.set v34.toNat r127).length = v35.length by first | (simp; done) | (simp; omega))), rfl, trivial⟩, ⟨(congrArg (Bk.row 38 3) (show (v35.set v34.toNat r127).map gIns.enc = (v35.map gIns.enc).set (0 + v34.toNat) (r127.enc) by simp)), trivial⟩, rfl⟩
    · replace h := cF h c
      exact ⟨v35, h, [], ⟨rfl, trivial⟩, ⟨rfl, trivial⟩, rfl⟩
  · rintro v33 h
    unfold m_laws_toInsS_j2 at h
    refine .inl ?_
    refine .inl (Exists.intro _ (And.intro (rowN rfl (show v33.length = (v33.map gIns.enc).length by simp)) ?_))
    replace h := Option.some.inj h
    subst h
    exact ⟨[.p (.lst (v33.map gIns.enc))], [], ⟨[], ⟨rfl, trivial⟩, trivial, rfl⟩, rfl, rfl, rfl⟩
def m_laws_eqIns (n : Nat) (a16 : gIns) (a17 : gIns) : Option Bool :=
  bif (a16.op_ != a17.op_) then (
    some false)
  else (
    bif (a16.n_ != a17.n_) then (
      some false)
    else (
      bif (a16.to_ != a17.to_) then (
        some false)
      else (
        some true)))
theorem c_laws_eqIns (n : Nat) (a16 : gIns) (a17 : gIns) (r : Bool) (h : m_laws_eqIns n a16 a17 = some r) : FnP Tryd.prog 26 [a16.enc, a17.enc] [B r] := by
  unfold m_laws_eqIns at h
  refine fn_introJ Tryd.func26 rfl rfl rfl ?_
  refine .inl ?_
  refine .inl ?_
  refine .inl ?_
  refine And.intro (fun c => ?_) (fun c => ?_)
  · replace h := cT h c
    refine .inl ?_
    replace h := Option.some.inj h
    subst h
    exact ⟨[.p (B false)], [], ⟨[], ⟨rfl, trivial⟩, trivial, rfl⟩, rfl, rfl, rfl⟩
  · replace h := cF h c
    refine .inl ?_
    refine .inl ?_
    refine And.intro (fun c => ?_) (fun c => ?_)
    · replace h := cT h c
      refine .inl ?_
      replace h := Option.some.inj h
      subst h
      exact ⟨[.p (B false)], [], ⟨[], ⟨rfl, trivial⟩, trivial, rfl⟩, rfl, rfl, rfl⟩
    · replace h := cF h c
      refine .inl ?_
      refine .inl ?_
      refine And.intro (fun c => ?_) (fun c => ?_)
      · replace h := cT h c
        refine .inl ?_
        replace h := Option.some.inj h
        subst h
        exact ⟨[.p (B false)], [], ⟨[], ⟨rfl, trivial⟩, trivial, rfl⟩, rfl, rfl, rfl⟩
      · replace h := cF h c
        refine .inl ?_
        replace h := Option.some.inj h
        subst h
        exact ⟨[.p (B true)], [], ⟨[], ⟨rfl, trivial⟩, trivial, rfl⟩, rfl, rfl, rfl⟩
def m_laws_eqInsS_j2 : Option Bool :=
  some true
def m_laws_eqInsS_l3 (n : Nat) (a18 : List gIns) (a19 : List gIns) : Nat → Int → Option Bool
  | 0, _ => none
  | k3 + 1, v40 =>
    bif (decide (v40 < ((a18.map gIns.enc).length : Int))) then (
      (ix a18 v40).bind fun x55 =>
      (ix a19 v40).bind fun x56 =>
      (m_laws_eqIns n x55 x56).bind fun r139 =>
      bif (!r139) then (
        some false)
      else (
        (m_laws_eqInsS_l3 n a18 a19 k3) (wr .i64 (v40 + 1))))
    else (
      m_laws_eqInsS_j2)
def m_laws_eqInsS (n : Nat) (a18 : List gIns) (a19 : List gIns) : Option Bool :=
  bif (((a18.map gIns.enc).length : Int) != ((a19.map gIns.enc).length : Int)) then (
    some false)
  else (
    m_laws_eqInsS_l3 n a18 a19 n 0)
theorem c_laws_eqInsS (n : Nat) (a18 : List gIns) (a19 : List gIns) (r : Bool) (h : m_laws_eqInsS n a18 a19 = some r) : FnP Tryd.prog 9 [.lst (a18.map gIns.enc), .lst (a19.map gIns.enc)] [B r] := by
  unfold m_laws_eqInsS at h
  refine fn_introJ Tryd.func9 rfl rfl rfl ?_
  refine .inl ?_
  refine .inl ?_
  refine .inl ?_
  refine And.intro (fun c => ?_) (fun c => ?_)
  · replace h := cT h c
    refine .inl ?_
    replace h := Option.some.inj h
    subst h
    exact ⟨[.p (B false)], [], ⟨[], ⟨rfl, trivial⟩, trivial, rfl⟩, rfl, rfl, rfl⟩
  · replace h := cF h c
    refine .inr ⟨Unit, fun x => ([], []), fun x => m_laws_eqInsS_j2 = some r, ?_, ?_⟩
    · refine .inl ?_
      refine ⟨Int, fun x => ([(0, .p (.lst (a18.map gIns.enc))), (1, .p (.lst (a19.map gIns.enc))), (5, .p (I x))], []), fun x k => m_laws_eqInsS_l3 n a18 a19 k x = some r, ⟨0, n, h, [], ⟨rfl, rfl, rfl, trivial⟩, trivial, rfl⟩, ?_⟩
      rintro v40 (_ | k3) h
      · exact ns h
      unfold m_laws_eqInsS_l3 at h
      refine .inl ?_
      refine .inl ?_
      refine And.intro (fun c => ?_) (fun c => ?_)
      · replace h := cT h c
        refine .inl ?_
        refine .inl ?_
        refine ⟨[0, 1, 2, 2003, 4, 5, 6, 2007, 1008, 9], [], by decide +kernel, ?_⟩
        obtain ⟨x55, hx55, h⟩ := bsm h
        refine And.intro (ix0 hx55) (Exists.intro _ (And.intro (gm (ixg hx55)) (And.intro rfl ?_)))
        obtain ⟨x56, hx56, h⟩ := bsm h
        refine And.intro (ix0 hx56) (Exists.intro _ (And.intro (gm (ixg hx56)) (And.intro rfl ?_)))
        obtain ⟨r139, hr139, h⟩ := bsm h
        refine callA (c_laws_eqIns n x55 x56 _ hr139) ?_
        refine And.intro (fun c => ?_) (fun c => ?_)
        · replace h := cT h c
          refine .inl ?_
          replace h := Option.some.inj h
          subst h
          exact ⟨[.p (B false)], [], ⟨[], ⟨rfl, trivial⟩, trivial, rfl⟩, rfl, rfl, rfl⟩
        · replace h := cF h c
          exact ⟨(wr .i64 (v40 + 1)), k3, h, Nat.lt_succ_self _, [], ⟨rfl, rfl, rfl, trivial⟩, trivial, rfl⟩
      · replace h := cF h c
        exact ⟨(), h, [], trivial, trivial, rfl⟩
    · rintro _ h
      unfold m_laws_eqInsS_j2 at h
      refine .inl ?_
      replace h := Option.some.inj h
      subst h
      exact ⟨[.p (B true)], [], ⟨[], ⟨rfl, trivial⟩, trivial, rfl⟩, rfl, rfl, rfl⟩
def m_laws_FnExactProgramShow (n : Nat) (a20 : List gIns) : Option Bool :=
  (m_laws_szInsS n a20 1048576).bind fun r140 =>
  bif (decide (r140 < 0)) then (
    some true)
  else (
    (m_laws_toInsS n a20).bind fun r141 =>
    (m_spec_ProgramShow n r141).bind fun r142 =>
    (m_laws_toInsS n a20).bind fun r143 =>
    (m_impl_ProgramShow n r143).bind fun r144 =>
    bif (!decide (r144.1 = r142.1)) then (
      some false)
    else (
      bif (r144.2 != r142.2) then (
        some false)
      else (
        (m_laws_toInsS n a20).bind fun r145 =>
        (m_laws_eqInsS n r143 r145).bind fun r146 =>
        bif (!r146) then (
          some false)
        else (
          some true))))
theorem c_laws_FnExactProgramShow (n : Nat) (a20 : List gIns) (r : Bool) (h : m_laws_FnExactProgramShow n a20 = some r) : FnP Tryd.prog 3 [.lst (a20.map gIns.enc)] [B r] := by
  unfold m_laws_FnExactProgramShow at h
  refine fn_introJ Tryd.func3 rfl rfl rfl ?_
  refine .inl ?_
  refine .inl ?_
  refine .inl ?_
  obtain ⟨r140, hr140, h⟩ := bsm h
  refine callA (c_laws_szInsS n a20 1048576 _ hr140) ?_
  refine .inl ?_
  refine .inl ?_
  refine And.intro (fun c => ?_) (fun c => ?_)
  · replace h := cT h c
    refine .inl ?_
    replace h := Option.some.inj h
    subst h
    exact ⟨[.p (B true)], [], ⟨[], ⟨rfl, trivial⟩, trivial, rfl⟩, rfl, rfl, rfl⟩
  · replace h := cF h c
    refine .inl ?_
    obtain ⟨r141, hr141, h⟩ := bsm h
    refine callA (c_laws_toInsS n a20 _ hr141) ?_
    obtain ⟨r142, hr142, h⟩ := bsm h
    refine callA (c_spec_ProgramShow n r141 _ hr142) ?_
    refine .inl ?_
    obtain ⟨r143, hr143, h⟩ := bsm h
    refine callA (c_laws_toInsS n a20 _ hr143) ?_
    refine .inl ?_
    obtain ⟨r144, hr144, h⟩ := bsm h
    refine callA (c_impl_ProgramShow n r143 _ hr144) ?_
    refine .inl ?_
    refine .inl ?_
    refine And.intro (fun c => ?_) (fun c => ?_)
    · replace h := cF h c
      refine And.intro (fun _ => ?_) (fun c => absurd c (by decide))
      refine And.intro (fun _ => ?_) (fun c => absurd c (by decide))
      refine And.intro (fun c => absurd c (by decide)) (fun _ => ?_)
      refine And.intro (fun c => ?_) (fun c => ?_)
      · replace h := cT h c
        refine .inl ?_
        replace h := Option.some.inj h
        subst h
        exact ⟨[.p (B false)], [], ⟨[], ⟨rfl, trivial⟩, trivial, rfl⟩, rfl, rfl, rfl⟩
      · replace h := cF h c
        refine .inl ?_
        refine .inl ?_
        obtain ⟨r145, hr145, h⟩ := bsm h
        refine callA (c_laws_toInsS n a20 _ hr145) ?_
        obtain ⟨r146, hr146, h⟩ := bsm h
        refine callA (c_laws_eqInsS n r143 r145 _ hr146) ?_
        refine And.intro (fun c => ?_) (fun c => ?_)
        · replace h := cT h c
          refine .inl ?_
          replace h := Option.some.inj h
          subst h
          exact ⟨[.p (B false)], [], ⟨[], ⟨rfl, trivial⟩, trivial, rfl⟩, rfl, rfl, rfl⟩
        · replace h := cF h c
          refine .inl ?_
          replace h := Option.some.inj h
          subst h
          exact ⟨[.p (B true)], [], ⟨[], ⟨rfl, trivial⟩, trivial, rfl⟩, rfl, rfl, rfl⟩
    · replace h := cT h c
      refine And.intro (fun c => absurd c (by decide)) (fun _ => ?_)
      refine And.intro (fun c => absurd c (by decide)) (fun _ => ?_)
      refine And.intro (fun _ => ?_) (fun c => absurd c (by decide))
      refine And.intro (fun _ => ?_) (fun c => absurd c (by decide))
      refine .inl ?_
      replace h := Option.some.inj h
      subst h
      exact ⟨[.p (B false)], [], ⟨[], ⟨rfl, trivial⟩, trivial, rfl⟩, rfl, rfl, rfl⟩
end Go.Proofs.YtnnalcglfgapbaaDoor.Z
