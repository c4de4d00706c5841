/- Printed: models and contracts. -/
import Derived.Test.YtegpjjnedbbpjaaGvB
set_option linter.unusedVariables false
set_option linter.unusedSimpArgs false
set_option linter.unnecessarySimpa false
set_option maxRecDepth 100000
set_option maxHeartbeats 8000000
namespace Go.Proofs.Ytegpjjnedbbpjaa.Z
open Go Go.RowKit Go.Proofs.Sy Go.Proofs
structure gSpot where
  scope_ : Int
  name_ : ByteArray
def gSpot.enc (x : gSpot) : PV := .agg [I x.scope_, S x.name_]
structure gSEdge where
  from_ : Int
  to_ : Int
  kind_ : Int
def gSEdge.enc (x : gSEdge) : PV := .agg [I x.from_, I x.to_, I x.kind_]
structure gSg where
  scopes_ : Int
  edges_ : List gSEdge
  decls_ : List gSpot
  refs_ : List gSpot
def gSg.enc (x : gSg) : PV := .agg [I x.scopes_, .lst (x.edges_.map gSEdge.enc), .lst (x.decls_.map gSpot.enc), .lst (x.refs_.map gSpot.enc)]
structure gl12Scoper where
  g_ : gSg
  decls_ : List (List Int)
  refs_ : List (List Int)
def gl12Scoper.enc (x : gl12Scoper) : PV := .agg [I x.g_.scopes_, .lst (x.g_.edges_.map gSEdge.enc), .lst (x.g_.decls_.map gSpot.enc), .lst (x.g_.refs_.map gSpot.enc), .lst (x.decls_.map (eL I)), .lst (x.refs_.map (eL I))]
def m_laws_big (n : Nat) (a1 : List UInt8) : Option Bool :=
  some (decide (((bl a1).length : Int) > 1048576))
theorem c_laws_big (n : Nat) (a1 : List UInt8) (r : Bool) (h : m_laws_big n a1 = some r) : FnP Try.prog 21 [.lst (bl a1)] [B r] := by
  unfold m_laws_big at h
  refine fn_introJ Try.func21 rfl rfl rfl ?_
  refine .inl ?_
  refine .inl ?_
  replace h := Option.some.inj h
  subst h
  exact ⟨[.p (B (decide (((bl a1).length : Int) > 1048576)))], [], ⟨[], ⟨rfl, trivial⟩, trivial, rfl⟩, rfl, rfl, rfl⟩
def m_spec_l01Between (n : Nat) (a2 : Int) (a3 : Int) (a4 : Int) : Option Bool :=
  bif (decide (a2 ≥ a3)) then (
    some (decide (a2 ≤ a4)))
  else (
    some false)
theorem c_spec_l01Between (n : Nat) (a2 : Int) (a3 : Int) (a4 : Int) (r : Bool) (h : m_spec_l01Between n a2 a3 a4 = some r) : FnP Try.prog 101 [I a2, I a3, I a4] [B r] := by
  unfold m_spec_l01Between at h
  refine fn_introJ Try.func101 rfl rfl rfl ?_
  refine .inl ?_
  refine .inl ?_
  refine And.intro (fun c => ?_) (fun c => ?_)
  · replace h := cT h c
    refine And.intro (fun _ => ?_) (fun c => absurd c (by decide))
    refine And.intro (fun _ => ?_) (fun c => absurd c (by decide))
    refine And.intro (fun _ => ?_) (fun c => absurd c (by decide))
    replace h := Option.some.inj h
    subst h
    exact ⟨[.p (B (decide (a2 ≤ a4)))], [], ⟨[], ⟨rfl, trivial⟩, trivial, rfl⟩, rfl, rfl, rfl⟩
  · replace h := cF h c
    refine And.intro (fun c => absurd c (by decide)) (fun _ => ?_)
    refine And.intro (fun c => absurd c (by decide)) (fun _ => ?_)
    refine And.intro (fun c => absurd c (by decide)) (fun _ => ?_)
    replace h := Option.some.inj h
    subst h
    exact ⟨[.p (B false)], [], ⟨[], ⟨rfl, trivial⟩, trivial, rfl⟩, rfl, rfl, rfl⟩
def m_spec_l01Letter (n : Nat) (a5 : Int) : Option Bool :=
  bif (decide (a5 ≥ 97)) then (
    bif (decide (a5 ≤ 122)) then (
      some true)
    else (
      bif (decide (a5 ≥ 65)) then (
        some (decide (a5 ≤ 90)))
      else (
        some false)))
  else (
    bif (decide (a5 ≥ 65)) then (
      some (decide (a5 ≤ 90)))
    else (
      some false))
theorem c_spec_l01Letter (n : Nat) (a5 : Int) (r : Bool) (h : m_spec_l01Letter n a5 = some r) : FnP Try.prog 179 [.raw (.int .u8 a5)] [B r] := by
  unfold m_spec_l01Letter at h
  refine fn_introJ Try.func179 rfl rfl rfl ?_
  refine .inl ?_
  refine .inl ?_
  refine And.intro (fun c => ?_) (fun c => ?_)
  · replace h := cT h c
    refine And.intro (fun _ => ?_) (fun c => absurd c (by decide))
    refine And.intro (fun _ => ?_) (fun c => absurd c (by decide))
    refine And.intro (fun c => ?_) (fun c => ?_)
    · replace h := cF h c
      refine And.intro (fun _ => ?_) (fun c => absurd c (by decide))
      refine And.intro (fun _ => ?_) (fun c => absurd c (by decide))
      refine And.intro (fun c => ?_) (fun c => ?_)
      · replace h := cT h c
        refine And.intro (fun _ => ?_) (fun c => absurd c (by decide))
        refine And.intro (fun _ => ?_) (fun c => absurd c (by decide))
        refine And.intro (fun _ => ?_) (fun c => absurd c (by decide))
        refine And.intro (fun c => absurd c (by decide)) (fun _ => ?_)
        replace h := Option.some.inj h
        subst h
        exact ⟨[.p (B (decide (a5 ≤ 90)))], [], ⟨[], ⟨rfl, trivial⟩, trivial, rfl⟩, rfl, rfl, rfl⟩
      · replace h := cF h c
        refine And.intro (fun c => absurd c (by decide)) (fun _ => ?_)
        refine And.intro (fun _ => ?_) (fun c => absurd c (by decide))
        refine And.intro (fun c => absurd c (by decide)) (fun _ => ?_)
        refine And.intro (fun c => absurd c (by decide)) (fun _ => ?_)
        replace h := Option.some.inj h
        subst h
        exact ⟨[.p (B false)], [], ⟨[], ⟨rfl, trivial⟩, trivial, rfl⟩, rfl, rfl, rfl⟩
    · replace h := cT h c
      refine And.intro (fun c => absurd c (by decide)) (fun _ => ?_)
      refine And.intro (fun c => absurd c (by decide)) (fun _ => ?_)
      refine And.intro (fun c => absurd c (by decide)) (fun _ => ?_)
      refine And.intro (fun _ => ?_) (fun c => absurd c (by decide))
      replace h := Option.some.inj h
      subst h
      exact ⟨[.p (B true)], [], ⟨[], ⟨rfl, trivial⟩, trivial, rfl⟩, rfl, rfl, rfl⟩
  · replace h := cF h c
    refine And.intro (fun c => absurd c (by decide)) (fun _ => ?_)
    refine And.intro (fun c => absurd c (by decide)) (fun _ => ?_)
    refine And.intro (fun _ => ?_) (fun c => absurd c (by decide))
    refine And.intro (fun _ => ?_) (fun c => absurd c (by decide))
    refine And.intro (fun _ => ?_) (fun c => absurd c (by decide))
    refine And.intro (fun c => ?_) (fun c => ?_)
    · replace h := cT h c
      refine And.intro (fun _ => ?_) (fun c => absurd c (by decide))
      refine And.intro (fun _ => ?_) (fun c => absurd c (by decide))
      refine And.intro (fun _ => ?_) (fun c => absurd c (by decide))
      refine And.intro (fun c => absurd c (by decide)) (fun _ => ?_)
      replace h := Option.some.inj h
      subst h
      exact ⟨[.p (B (decide (a5 ≤ 90)))], [], ⟨[], ⟨rfl, trivial⟩, trivial, rfl⟩, rfl, rfl, rfl⟩
    · replace h := cF h c
      refine And.intro (fun c => absurd c (by decide)) (fun _ => ?_)
      refine And.intro (fun _ => ?_) (fun c => absurd c (by decide))
      refine And.intro (fun c => absurd c (by decide)) (fun _ => ?_)
      refine And.intro (fun c => absurd c (by decide)) (fun _ => ?_)
      replace h := Option.some.inj h
      subst h
      exact ⟨[.p (B false)], [], ⟨[], ⟨rfl, trivial⟩, trivial, rfl⟩, rfl, rfl, rfl⟩
def m_spec_l01Digit (n : Nat) (a6 : Int) : Option Bool :=
  bif (decide (a6 ≥ 48)) then (
    some (decide (a6 ≤ 57)))
  else (
    some false)
theorem c_spec_l01Digit (n : Nat) (a6 : Int) (r : Bool) (h : m_spec_l01Digit n a6 = some r) : FnP Try.prog 220 [.raw (.int .u8 a6)] [B r] := by
  unfold m_spec_l01Digit at h
  refine fn_introJ Try.func220 rfl rfl rfl ?_
  refine .inl ?_
  refine .inl ?_
  refine And.intro (fun c => ?_) (fun c => ?_)
  · replace h := cT h c
    refine And.intro (fun _ => ?_) (fun c => absurd c (by decide))
    refine And.intro (fun _ => ?_) (fun c => absurd c (by decide))
    replace h := Option.some.inj h
    subst h
    exact ⟨[.p (B (decide (a6 ≤ 57)))], [], ⟨[], ⟨rfl, trivial⟩, trivial, rfl⟩, rfl, rfl, rfl⟩
  · replace h := cF h c
    refine And.intro (fun c => absurd c (by decide)) (fun _ => ?_)
    refine And.intro (fun c => absurd c (by decide)) (fun _ => ?_)
    replace h := Option.some.inj h
    subst h
    exact ⟨[.p (B false)], [], ⟨[], ⟨rfl, trivial⟩, trivial, rfl⟩, rfl, rfl, rfl⟩
def m_spec_l01NameByte (n : Nat) (a7 : Int) : Option Bool :=
  (m_spec_l01Letter n a7).bind fun r1 =>
  bif r1 then (
    some true)
  else (
    (m_spec_l01Digit n a7).bind fun r2 =>
    bif r2 then (
      some true)
    else (
      some (a7 == 95)))
theorem c_spec_l01NameByte (n : Nat) (a7 : Int) (r : Bool) (h : m_spec_l01NameByte n a7 = some r) : FnP Try.prog 180 [.raw (.int .u8 a7)] [B r] := by
  unfold m_spec_l01NameByte at h
  refine fn_introJ Try.func180 rfl rfl rfl ?_
  refine .inl ?_
  refine .inl ?_
  obtain ⟨r1, hr1, h⟩ := bsm h
  refine callA (c_spec_l01Letter n a7 _ hr1) ?_
  refine And.intro (fun c => ?_) (fun c => ?_)
  · replace h := cF h c
    refine And.intro (fun _ => ?_) (fun c => absurd c (by decide))
    obtain ⟨r2, hr2, h⟩ := bsm h
    refine callA (c_spec_l01Digit n a7 _ hr2) ?_
    refine And.intro (fun c => absurd c (by decide)) (fun _ => ?_)
    refine And.intro (fun c => ?_) (fun c => ?_)
    · replace h := cF h c
      refine And.intro (fun _ => ?_) (fun c => absurd c (by decide))
      refine And.intro (fun c => absurd c (by decide)) (fun _ => ?_)
      replace h := Option.some.inj h
      subst h
      exact ⟨[.p (B (a7 == 95))], [], ⟨[], ⟨rfl, trivial⟩, trivial, rfl⟩, rfl, rfl, rfl⟩
    · replace h := cT h c
      refine And.intro (fun c => absurd c (by decide)) (fun _ => ?_)
      refine And.intro (fun _ => ?_) (fun c => absurd c (by decide))
      replace h := Option.some.inj h
      subst h
      exact ⟨[.p (B true)], [], ⟨[], ⟨rfl, trivial⟩, trivial, rfl⟩, rfl, rfl, rfl⟩
  · replace h := cT h c
    refine And.intro (fun c => absurd c (by decide)) (fun _ => ?_)
    refine And.intro (fun _ => ?_) (fun c => absurd c (by decide))
    refine And.intro (fun c => absurd c (by decide)) (fun _ => ?_)
    refine And.intro (fun c => absurd c (by decide)) (fun _ => ?_)
    refine And.intro (fun _ => ?_) (fun c => absurd c (by decide))
    replace h := Option.some.inj h
    subst h
    exact ⟨[.p (B true)], [], ⟨[], ⟨rfl, trivial⟩, trivial, rfl⟩, rfl, rfl, rfl⟩
def m_spec_l01Name_j2 : Option Bool :=
  some true
def m_spec_l01Name_l3 (n : Nat) (a8 : ByteArray) : Nat → Int → Option Bool
  | 0, _ => none
  | k3 + 1, v3 =>
    bif (decide (v3 < (a8.size : Int))) then (
      gp (0 ≤ v3 ∧ v3 < (a8.size : Int)) <|
      (m_spec_l01NameByte n (bt a8 v3)).bind fun r10 =>
      bif (!r10) then (
        some false)
      else (
        (m_spec_l01Name_l3 n a8 k3) (wr .i64 (v3 + 1))))
    else (
      m_spec_l01Name_j2)
def m_spec_l01Name (n : Nat) (a8 : ByteArray) : Option Bool :=
  bif (decide ((a8.size : Int) < 1)) then (
    some false)
  else (
    bif (decide ((a8.size : Int) > 24)) then (
      some false)
    else (
      gp (0 ≤ (0 : Int) ∧ (0 : Int) < (a8.size : Int)) <|
      (m_spec_l01Letter n (bt a8 0)).bind fun r4 =>
      bif (!r4) then (
        some false)
      else (
        m_spec_l01Name_l3 n a8 n 1)))
theorem c_spec_l01Name (n : Nat) (a8 : ByteArray) (r : Bool) (h : m_spec_l01Name n a8 = some r) : FnP Try.prog 100 [S a8] [B r] := by
  unfold m_spec_l01Name at h
  refine fn_introJ Try.func100 rfl rfl rfl ?_
  refine .inl ?_
  refine .inl ?_
  refine .inl ?_
  refine And.intro (fun c => ?_) (fun c => ?_)
  · replace h := cF h c
    refine And.intro (fun _ => ?_) (fun c => absurd c (by decide))
    refine And.intro (fun _ => ?_) (fun c => absurd c (by decide))
    refine And.intro (fun c => absurd c (by decide)) (fun _ => ?_)
    refine And.intro (fun c => ?_) (fun c => ?_)
    · replace h := cF h c
      refine And.intro (fun _ => ?_) (fun c => absurd c (by decide))
      obtain ⟨g8, h⟩ := gpT h
      refine And.intro g8 ?_
      refine And.intro (fun _ => ?_) (fun c => absurd c (by decide))
      obtain ⟨r4, hr4, h⟩ := bsm h
      refine callA (c_spec_l01Letter n (bt a8 0) _ hr4) ?_
      refine And.intro (fun _ => ?_) (fun c => absurd c (by decide))
      refine And.intro (fun c => absurd c (by decide)) (fun _ => ?_)
      refine And.intro (fun c => ?_) (fun c => ?_)
      · replace h := cT h c
        refine .inl ?_
        replace h := Option.some.inj h
        subst h
        exact ⟨[.p (B false)], [], ⟨[], ⟨rfl, trivial⟩, trivial, rfl⟩, rfl, rfl, rfl⟩
      · replace h := cF h c
        refine .inr ⟨Unit, fun x => ([], []), fun x => m_spec_l01Name_j2 = some r, ?_, ?_⟩
        · refine .inl ?_
          refine ⟨Int, fun x => ([(0, .p (S a8)), (3, .p (I x))], []), fun x k => m_spec_l01Name_l3 n a8 k x = some r, ⟨1, n, h, [], ⟨rfl, rfl, trivial⟩, trivial, rfl⟩, ?_⟩
          rintro v3 (_ | k3) h
          · exact ns h
          unfold m_spec_l01Name_l3 at h
          refine .inl ?_
          refine .inl ?_
          refine And.intro (fun c => ?_) (fun c => ?_)
          · replace h := cT h c
            refine .inl ?_
            refine .inl ?_
            obtain ⟨g7, h⟩ := gpT h
            refine And.intro g7 ?_
            obtain ⟨r10, hr10, h⟩ := bsm h
            refine callA (c_spec_l01NameByte n (bt a8 v3) _ hr10) ?_
            refine And.intro (fun c => ?_) (fun c => ?_)
            · replace h := cT h c
              refine .inl ?_
              replace h := Option.some.inj h
              subst h
              exact ⟨[.p (B false)], [], ⟨[], ⟨rfl, trivial⟩, trivial, rfl⟩, rfl, rfl, rfl⟩
            · replace h := cF h c
              exact ⟨(wr .i64 (v3 + 1)), k3, h, Nat.lt_succ_self _, [], ⟨rfl, rfl, trivial⟩, trivial, rfl⟩
          · replace h := cF h c
            exact ⟨(), h, [], trivial, trivial, rfl⟩
        · rintro _ h
          unfold m_spec_l01Name_j2 at h
          refine .inl ?_
          replace h := Option.some.inj h
          subst h
          exact ⟨[.p (B true)], [], ⟨[], ⟨rfl, trivial⟩, trivial, rfl⟩, rfl, rfl, rfl⟩
    · replace h := cT h c
      refine And.intro (fun c => absurd c (by decide)) (fun _ => ?_)
      refine And.intro (fun c => absurd c (by decide)) (fun _ => ?_)
      refine And.intro (fun c => absurd c (by decide)) (fun _ => ?_)
      refine And.intro (fun _ => ?_) (fun c => absurd c (by decide))
      refine And.intro (fun _ => ?_) (fun c => absurd c (by decide))
      refine .inl ?_
      replace h := Option.some.inj h
      subst h
      exact ⟨[.p (B false)], [], ⟨[], ⟨rfl, trivial⟩, trivial, rfl⟩, rfl, rfl, rfl⟩
  · replace h := cT h c
    refine And.intro (fun c => absurd c (by decide)) (fun _ => ?_)
    refine And.intro (fun c => absurd c (by decide)) (fun _ => ?_)
    refine And.intro (fun _ => ?_) (fun c => absurd c (by decide))
    refine And.intro (fun c => absurd c (by decide)) (fun _ => ?_)
    refine And.intro (fun c => absurd c (by decide)) (fun _ => ?_)
    refine And.intro (fun c => absurd c (by decide)) (fun _ => ?_)
    refine And.intro (fun c => absurd c (by decide)) (fun _ => ?_)
    refine And.intro (fun _ => ?_) (fun c => absurd c (by decide))
    refine And.intro (fun _ => ?_) (fun c => absurd c (by decide))
    refine .inl ?_
    replace h := Option.some.inj h
    subst h
    exact ⟨[.p (B false)], [], ⟨[], ⟨rfl, trivial⟩, trivial, rfl⟩, rfl, rfl, rfl⟩
def m_spec_l12Spots_j2 : Option Bool :=
  some true
def m_spec_l12Spots_l3 (n : Nat) (a9 : List gSpot) (a10 : Int) : Nat → Int → Option Bool
  | 0, _ => none
  | k3 + 1, v7 =>
    bif (decide (v7 < ((a9.map gSpot.enc).length : Int))) then (
      (ix a9 v7).bind fun x23 =>
      (m_spec_l01Between n x23.scope_ 0 (wr .i64 (a10 - 1))).bind fun r33 =>
      bif (!r33) then (
        some false)
      else (
        (ix a9 v7).bind fun x24 =>
        (m_spec_l01Name n x24.name_).bind fun r34 =>
        bif (!r34) then (
          some false)
        else (
          (m_spec_l12Spots_l3 n a9 a10 k3) (wr .i64 (v7 + 1)))))
    else (
      m_spec_l12Spots_j2)
def m_spec_l12Spots (n : Nat) (a9 : List gSpot) (a10 : Int) : Option Bool :=
  bif (decide (((a9.map gSpot.enc).length : Int) > 120)) then (
    some false)
  else (
    m_spec_l12Spots_l3 n a9 a10 n 0)
theorem c_spec_l12Spots (n : Nat) (a9 : List gSpot) (a10 : Int) (r : Bool) (h : m_spec_l12Spots n a9 a10 = some r) : FnP Try.prog 178 [.lst (a9.map gSpot.enc), I a10] [B r] := by
  unfold m_spec_l12Spots at h
  refine fn_introJ Try.func178 rfl rfl rfl ?_
  refine .inl ?_
  refine .inl ?_
  refine .inl ?_
  refine And.intro (fun c => ?_) (fun c => ?_)
  · replace h := cT h c
    refine .inl ?_
    replace h := Option.some.inj h
    subst h
    exact ⟨[.p (B false)], [], ⟨[], ⟨rfl, trivial⟩, trivial, rfl⟩, rfl, rfl, rfl⟩
  · replace h := cF h c
    refine .inr ⟨Unit, fun x => ([], []), fun x => m_spec_l12Spots_j2 = some r, ?_, ?_⟩
    · refine .inl ?_
      refine ⟨Int, fun x => ([(0, .p (.lst (a9.map gSpot.enc))), (1, .p (I a10)), (5, .p (I x))], []), fun x k => m_spec_l12Spots_l3 n a9 a10 k x = some r, ⟨0, n, h, [], ⟨rfl, rfl, rfl, trivial⟩, trivial, rfl⟩, ?_⟩
      rintro v7 (_ | k3) h
      · exact ns h
      unfold m_spec_l12Spots_l3 at h
      refine .inl ?_
      refine .inl ?_
      refine And.intro (fun c => ?_) (fun c => ?_)
      · replace h := cT h c
        refine .inl ?_
        refine .inl ?_
        obtain ⟨x23, hx23, h⟩ := bsm h
        refine And.intro (ix0 hx23) (Exists.intro _ (And.intro (gm (ixg hx23)) (And.intro rfl ?_)))
        obtain ⟨r33, hr33, h⟩ := bsm h
        refine callA (c_spec_l01Between n x23.scope_ 0 (wr .i64 (a10 - 1)) _ hr33) ?_
        refine And.intro (fun c => ?_) (fun c => ?_)
        · replace h := cF h c
          refine And.intro (fun _ => ?_) (fun c => absurd c (by decide))
          refine And.intro (fun _ => ?_) (fun c => absurd c (by decide))
          obtain ⟨x24, hx24, h⟩ := bsm h
          refine And.intro (ix0 hx24) (Exists.intro _ (And.intro (gm (ixg hx24)) (And.intro rfl ?_)))
          refine And.intro (fun _ => ?_) (fun c => absurd c (by decide))
          refine And.intro (fun _ => ?_) (fun c => absurd c (by decide))
          refine And.intro (fun _ => ?_) (fun c => absurd c (by decide))
          obtain ⟨r34, hr34, h⟩ := bsm h
          refine callA (c_spec_l01Name n x24.name_ _ hr34) ?_
          refine And.intro (fun _ => ?_) (fun c => absurd c (by decide))
          refine And.intro (fun c => absurd c (by decide)) (fun _ => ?_)
          refine And.intro (fun c => ?_) (fun c => ?_)
          · replace h := cT h c
            refine .inl ?_
            replace h := Option.some.inj h
            subst h
            exact ⟨[.p (B false)], [], ⟨[], ⟨rfl, trivial⟩, trivial, rfl⟩, rfl, rfl, rfl⟩
          · replace h := cF h c
            exact ⟨(wr .i64 (v7 + 1)), k3, h, Nat.lt_succ_self _, [], ⟨rfl, rfl, rfl, trivial⟩, trivial, rfl⟩
        · replace h := cT h c
          refine And.intro (fun c => absurd c (by decide)) (fun _ => ?_)
          refine And.intro (fun c => absurd c (by decide)) (fun _ => ?_)
          refine And.intro (fun c => absurd c (by decide)) (fun _ => ?_)
          refine And.intro (fun c => absurd c (by decide)) (fun _ => ?_)
          refine And.intro (fun c => absurd c (by decide)) (fun _ => ?_)
          refine And.intro (fun c => absurd c (by decide)) (fun _ => ?_)
          refine And.intro (fun _ => ?_) (fun c => absurd c (by decide))
          refine And.intro (fun _ => ?_) (fun c => absurd c (by decide))
          refine .inl ?_
          replace h := Option.some.inj h
          subst h
          exact ⟨[.p (B false)], [], ⟨[], ⟨rfl, trivial⟩, trivial, rfl⟩, rfl, rfl, rfl⟩
      · replace h := cF h c
        exact ⟨(), h, [], trivial, trivial, rfl⟩
    · rintro _ h
      unfold m_spec_l12Spots_j2 at h
      refine .inl ?_
      replace h := Option.some.inj h
      subst h
      exact ⟨[.p (B true)], [], ⟨[], ⟨rfl, trivial⟩, trivial, rfl⟩, rfl, rfl, rfl⟩
def m_spec_SgOK_j2 : Option Bool :=
  some true
def m_spec_SgOK_l3 (n : Nat) (a11 : gSg) : Nat → Int → Option Bool
  | 0, _ => none
  | k3 + 1, v11 =>
    bif (decide (v11 < ((a11.edges_.map gSEdge.enc).length : Int))) then (
      (ix a11.edges_ v11).bind fun x36 =>
      (m_spec_l01Between n x36.from_ 0 (wr .i64 (a11.scopes_ - 1))).bind fun r74 =>
      bif (!r74) then (
        some false)
      else (
        (m_spec_l01Between n x36.to_ 0 (wr .i64 (a11.scopes_ - 1))).bind fun r75 =>
        bif (!r75) then (
          some false)
        else (
          (m_spec_l01Between n x36.kind_ 1 2).bind fun r76 =>
          bif (!r76) then (
            some false)
          else (
            (m_spec_SgOK_l3 n a11 k3) (wr .i64 (v11 + 1))))))
    else (
      m_spec_SgOK_j2)
def m_spec_SgOK (n : Nat) (a11 : gSg) : Option Bool :=
  (m_spec_l01Between n a11.scopes_ 1 60).bind fun r38 =>
  bif (!r38) then (
    some false)
  else (
    bif (decide (((a11.edges_.map gSEdge.enc).length : Int) > 120)) then (
      some false)
    else (
      (m_spec_l12Spots n a11.decls_ a11.scopes_).bind fun r39 =>
      bif (!r39) then (
        some false)
      else (
        (m_spec_l12Spots n a11.refs_ a11.scopes_).bind fun r40 =>
        bif (!r40) then (
          some false)
        else (
          m_spec_SgOK_l3 n a11 n 0))))
theorem c_spec_SgOK (n : Nat) (a11 : gSg) (r : Bool) (h : m_spec_SgOK n a11 = some r) : FnP Try.prog 99 [a11.enc] [B r] := by
  unfold m_spec_SgOK at h
  refine fn_introJ Try.func99 rfl rfl rfl ?_
  refine .inl ?_
  refine .inl ?_
  refine .inl ?_
  obtain ⟨r38, hr38, h⟩ := bsm h
  refine callA (c_spec_l01Between n a11.scopes_ 1 60 _ hr38) ?_
  refine And.intro (fun c => ?_) (fun c => ?_)
  · replace h := cF h c
    refine And.intro (fun _ => ?_) (fun c => absurd c (by decide))
    refine And.intro (fun _ => ?_) (fun c => absurd c (by decide))
    refine And.intro (fun _ => ?_) (fun c => absurd c (by decide))
    refine And.intro (fun c => absurd c (by decide)) (fun _ => ?_)
    refine And.intro (fun c => ?_) (fun c => ?_)
    · replace h := cF h c
      refine And.intro (fun _ => ?_) (fun c => absurd c (by decide))
      refine And.intro (fun _ => ?_) (fun c => absurd c (by decide))
      refine And.intro (fun _ => ?_) (fun c => absurd c (by decide))
      refine And.intro (fun _ => ?_) (fun c => absurd c (by decide))
      obtain ⟨r39, hr39, h⟩ := bsm h
      refine callA (c_spec_l12Spots n a11.decls_ a11.scopes_ _ hr39) ?_
      refine And.intro (fun _ => ?_) (fun c => absurd c (by decide))
      refine And.intro (fun c => absurd c (by decide)) (fun _ => ?_)
      refine And.intro (fun c => ?_) (fun c => ?_)
      · replace h := cF h c
        refine And.intro (fun _ => ?_) (fun c => absurd c (by decide))
        refine And.intro (fun _ => ?_) (fun c => absurd c (by decide))
        refine And.intro (fun _ => ?_) (fun c => absurd c (by decide))
        refine And.intro (fun _ => ?_) (fun c => absurd c (by decide))
        obtain ⟨r40, hr40, h⟩ := bsm h
        refine callA (c_spec_l12Spots n a11.refs_ a11.scopes_ _ hr40) ?_
        refine And.intro (fun _ => ?_) (fun c => absurd c (by decide))
        refine And.intro (fun c => absurd c (by decide)) (fun _ => ?_)
        refine And.intro (fun c => ?_) (fun c => ?_)
        · replace h := cT h c
          refine .inl ?_
          replace h := Option.some.inj h
          subst h
          exact ⟨[.p (B false)], [], ⟨[], ⟨rfl, trivial⟩, trivial, rfl⟩, rfl, rfl, rfl⟩
        · replace h := cF h c
          refine .inr ⟨Unit, fun x => ([], []), fun x => m_spec_SgOK_j2 = some r, ?_, ?_⟩
          · refine .inl ?_
            refine ⟨Int, fun x => ([(1, .ptr 0 0), (3, .p (I x))], [.box 65 [.p (I a11.scopes_), .p (.lst (a11.edges_.map gSEdge.enc)), .p (.lst (a11.decls_.map gSpot.enc)), .p (.lst (a11.refs_.map gSpot.enc))]]), fun x k => m_spec_SgOK_l3 n a11 k x = some r, ⟨0, n, h, [], ⟨rfl, rfl, trivial⟩, ⟨⟨rfl, rfl, rfl, rfl, rfl, trivial⟩, trivial⟩, rfl⟩, ?_⟩
            rintro v11 (_ | k3) h
            · exact ns h
            unfold m_spec_SgOK_l3 at h
            refine .inl ?_
            refine .inl ?_
            refine And.intro (fun c => ?_) (fun c => ?_)
            · replace h := cT h c
              refine .inl ?_
              refine .inl ?_
              obtain ⟨x36, hx36, h⟩ := bsm h
              refine And.intro (ix0 hx36) (Exists.intro _ (And.intro (gm (ixg hx36)) (And.intro rfl ?_)))
              refine .inl ?_
              obtain ⟨r74, hr74, h⟩ := bsm h
              refine callA (c_spec_l01Between n x36.from_ 0 (wr .i64 (a11.scopes_ - 1)) _ hr74) ?_
              refine And.intro (fun c => ?_) (fun c => ?_)
              · replace h := cF h c
                refine And.intro (fun _ => ?_) (fun c => absurd c (by decide))
                refine And.intro (fun _ => ?_) (fun c => absurd c (by decide))
                refine And.intro (fun _ => ?_) (fun c => absurd c (by decide))
                refine And.intro (fun _ => ?_) (fun c => absurd c (by decide))
                refine And.intro (fun _ => ?_) (fun c => absurd c (by decide))
                obtain ⟨r75, hr75, h⟩ := bsm h
                refine callA (c_spec_l01Between n x36.to_ 0 (wr .i64 (a11.scopes_ - 1)) _ hr75) ?_
                refine And.intro (fun _ => ?_) (fun c => absurd c (by decide))
                refine And.intro (fun c => absurd c (by decide)) (fun _ => ?_)
                refine And.intro (fun c => ?_) (fun c => ?_)
                · replace h := cF h c
                  refine And.intro (fun _ => ?_) (fun c => absurd c (by decide))
                  refine And.intro (fun _ => ?_) (fun c => absurd c (by decide))
                  obtain ⟨r76, hr76, h⟩ := bsm h
                  refine callA (c_spec_l01Between n x36.kind_ 1 2 _ hr76) ?_
                  refine And.intro (fun _ => ?_) (fun c => absurd c (by decide))
                  refine And.intro (fun c => absurd c (by decide)) (fun _ => ?_)
                  refine And.intro (fun c => ?_) (fun c => ?_)
                  · replace h := cT h c
                    refine .inl ?_
                    replace h := Option.some.inj h
                    subst h
                    exact ⟨[.p (B false)], [], ⟨[], ⟨rfl, trivial⟩, trivial, rfl⟩, rfl, rfl, rfl⟩
                  · replace h := cF h c
                    exact ⟨(wr .i64 (v11 + 1)), k3, h, Nat.lt_succ_self _, [], ⟨rfl, rfl, trivial⟩, ⟨⟨rfl, rfl, rfl, rfl, rfl, trivial⟩, trivial⟩, rfl⟩
                · replace h := cT h c
                  refine And.intro (fun c => absurd c (by decide)) (fun _ => ?_)
                  refine And.intro (fun c => absurd c (by decide)) (fun _ => ?_)
                  refine And.intro (fun c => absurd c (by decide)) (fun _ => ?_)
                  refine And.intro (fun _ => ?_) (fun c => absurd c (by decide))
                  refine And.intro (fun _ => ?_) (fun c => absurd c (by decide))
                  refine .inl ?_
                  replace h := Option.some.inj h
                  subst h
                  exact ⟨[.p (B false)], [], ⟨[], ⟨rfl, trivial⟩, trivial, rfl⟩, rfl, rfl, rfl⟩
              · replace h := cT h c
                refine And.intro (fun c => absurd c (by decide)) (fun _ => ?_)
                refine And.intro (fun c => absurd c (by decide)) (fun _ => ?_)
                refine And.intro (fun c => absurd c (by decide)) (fun _ => ?_)
                refine And.intro (fun c => absurd c (by decide)) (fun _ => ?_)
                refine And.intro (fun c => absurd c (by decide)) (fun _ => ?_)
                refine And.intro (fun c => absurd c (by decide)) (fun _ => ?_)
                refine And.intro (fun _ => ?_) (fun c => absurd c (by decide))
                refine And.intro (fun c => absurd c (by decide)) (fun _ => ?_)
                refine And.intro (fun c => absurd c (by decide)) (fun _ => ?_)
                refine And.intro (fun c => absurd c (by decide)) (fun _ => ?_)
                refine And.intro (fun c => absurd c (by decide)) (fun _ => ?_)
                refine And.intro (fun _ => ?_) (fun c => absurd c (by decide))
                refine And.intro (fun _ => ?_) (fun c => absurd c (by decide))
                refine .inl ?_
                replace h := Option.some.inj h
                subst h
                exact ⟨[.p (B false)], [], ⟨[], ⟨rfl, trivial⟩, trivial, rfl⟩, rfl, rfl, rfl⟩
            · replace h := cF h c
              exact ⟨(), h, [], trivial, trivial, rfl⟩
          · rintro _ h
            unfold m_spec_SgOK_j2 at h
            refine .inl ?_
            replace h := Option.some.inj h
            subst h
            exact ⟨[.p (B true)], [], ⟨[], ⟨rfl, trivial⟩, trivial, rfl⟩, rfl, rfl, rfl⟩
      · replace h := cT h c
        refine And.intro (fun c => absurd c (by decide)) (fun _ => ?_)
        refine And.intro (fun c => absurd c (by decide)) (fun _ => ?_)
        refine And.intro (fun c => absurd c (by decide)) (fun _ => ?_)
        refine And.intro (fun c => absurd c (by decide)) (fun _ => ?_)
        refine And.intro (fun c => absurd c (by decide)) (fun _ => ?_)
        refine And.intro (fun _ => ?_) (fun c => absurd c (by decide))
        refine And.intro (fun _ => ?_) (fun c => absurd c (by decide))
        refine .inl ?_
        replace h := Option.some.inj h
        subst h
        exact ⟨[.p (B false)], [], ⟨[], ⟨rfl, trivial⟩, trivial, rfl⟩, rfl, rfl, rfl⟩
    · replace h := cT h c
      refine And.intro (fun c => absurd c (by decide)) (fun _ => ?_)
      refine And.intro (fun c => absurd c (by decide)) (fun _ => ?_)
      refine And.intro (fun c => absurd c (by decide)) (fun _ => ?_)
      refine And.intro (fun c => absurd c (by decide)) (fun _ => ?_)
      refine And.intro (fun c => absurd c (by decide)) (fun _ => ?_)
      refine And.intro (fun _ => ?_) (fun c => absurd c (by decide))
      refine And.intro (fun c => absurd c (by decide)) (fun _ => ?_)
      refine And.intro (fun c => absurd c (by decide)) (fun _ => ?_)
      refine And.intro (fun c => absurd c (by decide)) (fun _ => ?_)
      refine And.intro (fun c => absurd c (by decide)) (fun _ => ?_)
      refine And.intro (fun c => absurd c (by decide)) (fun _ => ?_)
      refine And.intro (fun c => absurd c (by decide)) (fun _ => ?_)
      refine And.intro (fun _ => ?_) (fun c => absurd c (by decide))
      refine And.intro (fun _ => ?_) (fun c => absurd c (by decide))
      refine .inl ?_
      replace h := Option.some.inj h
      subst h
      exact ⟨[.p (B false)], [], ⟨[], ⟨rfl, trivial⟩, trivial, rfl⟩, rfl, rfl, rfl⟩
  · replace h := cT h c
    refine And.intro (fun c => absurd c (by decide)) (fun _ => ?_)
    refine And.intro (fun c => absurd c (by decide)) (fun _ => ?_)
    refine And.intro (fun c => absurd c (by decide)) (fun _ => ?_)
    refine And.intro (fun _ => ?_) (fun c => absurd c (by decide))
    refine And.intro (fun c => absurd c (by decide)) (fun _ => ?_)
    refine And.intro (fun c => absurd c (by decide)) (fun _ => ?_)
    refine And.intro (fun c => absurd c (by decide)) (fun _ => ?_)
    refine And.intro (fun c => absurd c (by decide)) (fun _ => ?_)
    refine And.intro (fun c => absurd c (by decide)) (fun _ => ?_)
    refine And.intro (fun c => absurd c (by decide)) (fun _ => ?_)
    refine And.intro (fun _ => ?_) (fun c => absurd c (by decide))
    refine And.intro (fun c => absurd c (by decide)) (fun _ => ?_)
    refine And.intro (fun c => absurd c (by decide)) (fun _ => ?_)
    refine And.intro (fun c => absurd c (by decide)) (fun _ => ?_)
    refine And.intro (fun c => absurd c (by decide)) (fun _ => ?_)
    refine And.intro (fun c => absurd c (by decide)) (fun _ => ?_)
    refine And.intro (fun c => absurd c (by decide)) (fun _ => ?_)
    refine And.intro (fun _ => ?_) (fun c => absurd c (by decide))
    refine And.intro (fun _ => ?_) (fun c => absurd c (by decide))
    refine .inl ?_
    replace h := Option.some.inj h
    subst h
    exact ⟨[.p (B false)], [], ⟨[], ⟨rfl, trivial⟩, trivial, rfl⟩, rfl, rfl, rfl⟩
def m_spec_l03Bytes_j2 : Option Bool :=
  some true
def m_spec_l03Bytes_l3 (a12 : ByteArray) (a13 : Int) (a14 : Int) : Nat → Int → Option Bool
  | 0, _ => none
  | k3 + 1, v15 =>
    bif (decide (v15 < (a12.size : Int))) then (
      gp (0 ≤ v15 ∧ v15 < (a12.size : Int)) <|
      bif (decide ((bt a12 v15) < a13)) then (
        some false)
      else (
        gp (0 ≤ v15 ∧ v15 < (a12.size : Int)) <|
        bif (decide ((bt a12 v15) > a14)) then (
          some false)
        else (
          (m_spec_l03Bytes_l3 a12 a13 a14 k3) (wr .i64 (v15 + 1)))))
    else (
      m_spec_l03Bytes_j2)
def m_spec_l03Bytes (n : Nat) (a12 : ByteArray) (a13 : Int) (a14 : Int) : Option Bool :=
  m_spec_l03Bytes_l3 a12 a13 a14 n 0
theorem c_spec_l03Bytes (n : Nat) (a12 : ByteArray) (a13 : Int) (a14 : Int) (r : Bool) (h : m_spec_l03Bytes n a12 a13 a14 = some r) : FnP Try.prog 238 [S a12, .raw (.int .u8 a13), .raw (.int .u8 a14)] [B r] := by
  unfold m_spec_l03Bytes at h
  refine fn_introJ Try.func238 rfl rfl rfl ?_
  refine .inl ?_
  refine .inr ⟨Unit, fun x => ([], []), fun x => m_spec_l03Bytes_j2 = some r, ?_, ?_⟩
  · refine .inl ?_
    refine ⟨Int, fun x => ([(0, .p (S a12)), (1, .p (.raw (.int .u8 a13))), (2, .p (.raw (.int .u8 a14))), (7, .p (I x))], []), fun x k => m_spec_l03Bytes_l3 a12 a13 a14 k x = some r, ⟨0, n, h, [], ⟨rfl, rfl, rfl, rfl, trivial⟩, trivial, rfl⟩, ?_⟩
    rintro v15 (_ | k3) h
    · exact ns h
    unfold m_spec_l03Bytes_l3 at h
    refine .inl ?_
    refine .inl ?_
    refine And.intro (fun c => ?_) (fun c => ?_)
    · replace h := cT h c
      refine .inl ?_
      refine .inl ?_
      obtain ⟨g24, h⟩ := gpT h
      refine And.intro g24 ?_
      refine And.intro (fun c => ?_) (fun c => ?_)
      · replace h := cF h c
        refine And.intro (fun _ => ?_) (fun c => absurd c (by decide))
        refine And.intro (fun _ => ?_) (fun c => absurd c (by decide))
        obtain ⟨g23, h⟩ := gpT h
        refine And.intro g23 ?_
        refine And.intro (fun _ => ?_) (fun c => absurd c (by decide))
        refine And.intro (fun _ => ?_) (fun c => absurd c (by decide))
        refine And.intro (fun c => absurd c (by decide)) (fun _ => ?_)
        refine And.intro (fun c => ?_) (fun c => ?_)
        · replace h := cT h c
          refine .inl ?_
          replace h := Option.some.inj h
          subst h
          exact ⟨[.p (B false)], [], ⟨[], ⟨rfl, trivial⟩, trivial, rfl⟩, rfl, rfl, rfl⟩
        · replace h := cF h c
          exact ⟨(wr .i64 (v15 + 1)), k3, h, Nat.lt_succ_self _, [], ⟨rfl, rfl, rfl, rfl, trivial⟩, trivial, rfl⟩
      · replace h := cT h c
        refine And.intro (fun c => absurd c (by decide)) (fun _ => ?_)
        refine And.intro (fun c => absurd c (by decide)) (fun _ => ?_)
        refine And.intro (fun c => absurd c (by decide)) (fun _ => ?_)
        refine And.intro (fun c => absurd c (by decide)) (fun _ => ?_)
        refine And.intro (fun _ => ?_) (fun c => absurd c (by decide))
        refine And.intro (fun _ => ?_) (fun c => absurd c (by decide))
        refine .inl ?_
        replace h := Option.some.inj h
        subst h
        exact ⟨[.p (B false)], [], ⟨[], ⟨rfl, trivial⟩, trivial, rfl⟩, rfl, rfl, rfl⟩
    · replace h := cF h c
      exact ⟨(), h, [], trivial, trivial, rfl⟩
  · rintro _ h
    unfold m_spec_l03Bytes_j2 at h
    refine .inl ?_
    replace h := Option.some.inj h
    subst h
    exact ⟨[.p (B true)], [], ⟨[], ⟨rfl, trivial⟩, trivial, rfl⟩, rfl, rfl, rfl⟩
def m_spec_l12Num_j1 (n : Nat) (a15 : ByteArray) : Option Bool :=
  (m_spec_l03Bytes n a15 48 57).bind fun r78 =>
  some r78
def m_spec_l12Num (n : Nat) (a15 : ByteArray) : Option Bool :=
  (m_spec_l01Between n (a15.size : Int) 1 9).bind fun r79 =>
  bif (!r79) then (
    some false)
  else (
    bif (decide ((a15.size : Int) > 1)) then (
      gp (0 ≤ (0 : Int) ∧ (0 : Int) < (a15.size : Int)) <|
      bif ((bt a15 0) == 48) then (
        some false)
      else (
        m_spec_l12Num_j1 n a15))
    else (
      m_spec_l12Num_j1 n a15))
theorem c_spec_l12Num (n : Nat) (a15 : ByteArray) (r : Bool) (h : m_spec_l12Num n a15 = some r) : FnP Try.prog 222 [S a15] [B r] := by
  unfold m_spec_l12Num at h
  refine fn_introJ Try.func222 rfl rfl rfl ?_
  refine .inl ?_
  refine .inr ⟨Unit, fun x => ([(0, .p (S a15))], []), fun x => m_spec_l12Num_j1 n a15 = some r, ?_, ?_⟩
  · refine .inl ?_
    obtain ⟨r79, hr79, h⟩ := bsm h
    refine callA (c_spec_l01Between n (a15.size : Int) 1 9 _ hr79) ?_
    refine And.intro (fun c => ?_) (fun c => ?_)
    · replace h := cF h c
      refine And.intro (fun _ => ?_) (fun c => absurd c (by decide))
      refine And.intro (fun _ => ?_) (fun c => absurd c (by decide))
      refine And.intro (fun _ => ?_) (fun c => absurd c (by decide))
      refine And.intro (fun c => ?_) (fun c => ?_)
      · replace h := cT h c
        refine And.intro (fun _ => ?_) (fun c => absurd c (by decide))
        obtain ⟨g2, h⟩ := gpT h
        refine And.intro g2 ?_
        refine And.intro (fun _ => ?_) (fun c => absurd c (by decide))
        refine And.intro (fun _ => ?_) (fun c => absurd c (by decide))
        refine And.intro (fun _ => ?_) (fun c => absurd c (by decide))
        refine And.intro (fun c => absurd c (by decide)) (fun _ => ?_)
        refine And.intro (fun c => ?_) (fun c => ?_)
        · replace h := cT h c
          refine .inl ?_
          replace h := Option.some.inj h
          subst h
          exact ⟨[.p (B false)], [], ⟨[], ⟨rfl, trivial⟩, trivial, rfl⟩, rfl, rfl, rfl⟩
        · replace h := cF h c
          exact ⟨(), h, [], ⟨rfl, trivial⟩, trivial, rfl⟩
      · replace h := cF h c
        refine And.intro (fun c => absurd c (by decide)) (fun _ => ?_)
        refine And.intro (fun c => absurd c (by decide)) (fun _ => ?_)
        refine And.intro (fun _ => ?_) (fun c => absurd c (by decide))
        refine And.intro (fun c => absurd c (by decide)) (fun _ => ?_)
        refine And.intro (fun c => absurd c (by decide)) (fun _ => ?_)
        refine And.intro (fun c => absurd c (by decide)) (fun _ => ?_)
        exact ⟨(), h, [], ⟨rfl, trivial⟩, trivial, rfl⟩
    · replace h := cT h c
      refine And.intro (fun c => absurd c (by decide)) (fun _ => ?_)
      refine And.intro (fun c => absurd c (by decide)) (fun _ => ?_)
      refine And.intro (fun c => absurd c (by decide)) (fun _ => ?_)
      refine And.intro (fun c => absurd c (by decide)) (fun _ => ?_)
      refine And.intro (fun _ => ?_) (fun c => absurd c (by decide))
      refine And.intro (fun _ => ?_) (fun c => absurd c (by decide))
      refine .inl ?_
      replace h := Option.some.inj h
      subst h
      exact ⟨[.p (B false)], [], ⟨[], ⟨rfl, trivial⟩, trivial, rfl⟩, rfl, rfl, rfl⟩
  · rintro _ h
    unfold m_spec_l12Num_j1 at h
    refine .inl ?_
    obtain ⟨r78, hr78, h⟩ := bsm h
    refine callA (c_spec_l03Bytes n a15 48 57 _ hr78) ?_
    replace h := Option.some.inj h
    subst h
    exact ⟨[.p (B r78)], [], ⟨[], ⟨rfl, trivial⟩, trivial, rfl⟩, rfl, rfl, rfl⟩
def m_spec_l12Term_j1 (a16 : Tree) (v17 : Bool) : Option Bool :=
  bif v17 then (
    some (decide (a16.tx = ⟨#[]⟩)))
  else (
    some false)
def m_spec_l12Term_j5 : Option Bool :=
  some true
def m_spec_l12Term_l6 (self_spec_l12Term : Tree → Option Bool) (a16 : Tree) (v19 : Int) : Nat → Int → Option Bool
  | 0, _ => none
  | k6 + 1, v22 =>
    bif (decide (v22 < v19)) then (
      (ix a16.ks v22).bind fun x45 =>
      (self_spec_l12Term x45).bind fun r88 =>
      bif (!r88) then (
        some false)
      else (
        (m_spec_l12Term_l6 self_spec_l12Term a16 v19 k6) (wr .i64 (v22 + 1))))
    else (
      m_spec_l12Term_j5)
def m_spec_l12Term_j3 (self_spec_l12Term : Tree → Option Bool) (n : Nat) (a16 : Tree) (v18 : Int) (v19 : Int) : Option Bool :=
  m_spec_l12Term_l6 self_spec_l12Term a16 v19 n v18
def m_spec_l12Term_j2 (self_spec_l12Term : Tree → Option Bool) (n : Nat) (a16 : Tree) (v18 : Int) (v19 : Int) : Option Bool :=
  bif (((encM a16.ks).length : Int) != v19) then (
    some false)
  else (
    bif (v18 == 1) then (
      (ix a16.ks 0).bind fun x46 =>
      bif (!x46.lf) then (
        some false)
      else (
        (ix a16.ks 0).bind fun x47 =>
        bif (!decide (x47.nm = ⟨#[73, 100]⟩)) then (
          some false)
        else (
          (ix a16.ks 0).bind fun x48 =>
          (m_spec_l01Name n x48.tx).bind fun r89 =>
          bif (!r89) then (
            some false)
          else (
            m_spec_l12Term_j3 self_spec_l12Term n a16 v18 v19))))
    else (
      m_spec_l12Term_j3 self_spec_l12Term n a16 v18 v19))
def m_spec_l12Term : Nat → Tree → Option Bool
  | 0, _ => none
  | n + 1, a16 =>
    bif a16.lf then (
      bif (decide (a16.nm = ⟨#[73, 100]⟩)) then (
        (m_spec_l01Name n a16.tx).bind fun r80 =>
        some r80)
      else (
        bif (decide (a16.nm = ⟨#[78, 117, 109]⟩)) then (
          (m_spec_l12Num n a16.tx).bind fun r81 =>
          some r81)
        else (
          bif (decide (a16.nm = ⟨#[89, 101, 115]⟩)) then (
            m_spec_l12Term_j1 a16 true)
          else (
            m_spec_l12Term_j1 a16 (decide (a16.nm = ⟨#[78, 111]⟩))))))
    else (
      bif (decide (a16.nm = ⟨#[76, 97, 109]⟩)) then (
        m_spec_l12Term_j2 (m_spec_l12Term n) n a16 1 2)
      else (
        bif (decide (a16.nm = ⟨#[76, 101, 116]⟩)) then (
          m_spec_l12Term_j2 (m_spec_l12Term n) n a16 1 3)
        else (
          bif (decide (a16.nm = ⟨#[73, 102]⟩)) then (
            m_spec_l12Term_j2 (m_spec_l12Term n) n a16 0 3)
          else (
            bif (decide (a16.nm = ⟨#[65, 112, 112]⟩)) then (
              m_spec_l12Term_j2 (m_spec_l12Term n) n a16 0 2)
            else (
              bif (decide (a16.nm = ⟨#[65, 100, 100]⟩)) then (
                m_spec_l12Term_j2 (m_spec_l12Term n) n a16 0 2)
              else (
                bif (decide (a16.nm = ⟨#[69, 113]⟩)) then (
                  m_spec_l12Term_j2 (m_spec_l12Term n) n a16 0 2)
                else (
                  some false)))))))
theorem c_spec_l12Term : ∀ (n : Nat) (a16 : Tree) (r : Bool) (h : m_spec_l12Term n a16 = some r), FnP Try.prog 185 [a16.enc] [B r]
  | 0, _, r, h => ns h
  | n + 1, a16, r, h => by
    have ih_spec_l12Term := c_spec_l12Term n
    unfold m_spec_l12Term at h
    refine fn_introJ Try.func185 rfl rfl rfl ?_
    refine .inl ?_
    refine .inl ?_
    refine .inl ?_
    refine And.intro (fun c => ?_) (fun c => ?_)
    · replace h := cT h c
      refine .inl ?_
      refine .inl ?_
      refine .inl ?_
      refine And.intro (fun c => ?_) (fun c => ?_)
      · replace h := cT h c
        refine .inl ?_
        obtain ⟨r80, hr80, h⟩ := bsm h
        refine callA (c_spec_l01Name n a16.tx _ hr80) ?_
        replace h := Option.some.inj h
        subst h
        exact ⟨[.p (B r80)], [], ⟨[], ⟨rfl, trivial⟩, trivial, rfl⟩, rfl, rfl, rfl⟩
      · replace h := cF h c
        refine .inl ?_
        refine And.intro (fun c => ?_) (fun c => ?_)
        · replace h := cT h c
          refine .inl ?_
          obtain ⟨r81, hr81, h⟩ := bsm h
          refine callA (c_spec_l12Num n a16.tx _ hr81) ?_
          replace h := Option.some.inj h
          subst h
          exact ⟨[.p (B r81)], [], ⟨[], ⟨rfl, trivial⟩, trivial, rfl⟩, rfl, rfl, rfl⟩
        · replace h := cF h c
          refine .inr ⟨Bool, fun x => ([(1, .ptr 0 0), (20, .p (B x))], [.box 31 [.p (S a16.nm), .p (S a16.tx), .p (B a16.lf), .p (.lst (encM a16.ks))]]), fun x => m_spec_l12Term_j1 a16 x = some r, ?_, ?_⟩
          · refine .inl ?_
            refine And.intro (fun c => ?_) (fun c => ?_)
            · replace h := cT h c
              exact ⟨true, h, [], ⟨rfl, rfl, trivial⟩, ⟨⟨rfl, rfl, rfl, rfl, rfl, trivial⟩, trivial⟩, rfl⟩
            · replace h := cF h c
              exact ⟨(decide (a16.nm = ⟨#[78, 111]⟩)), h, [], ⟨rfl, rfl, trivial⟩, ⟨⟨rfl, rfl, rfl, rfl, rfl, trivial⟩, trivial⟩, rfl⟩
          · rintro v17 h
            unfold m_spec_l12Term_j1 at h
            refine And.intro (fun c => ?_) (fun c => ?_)
            · replace h := cT h c
              refine .inl ?_
              replace h := Option.some.inj h
              subst h
              exact ⟨[.p (B (decide (a16.tx = ⟨#[]⟩)))], [], ⟨[], ⟨rfl, trivial⟩, trivial, rfl⟩, rfl, rfl, rfl⟩
            · replace h := cF h c
              refine .inl ?_
              replace h := Option.some.inj h
              subst h
              exact ⟨[.p (B false)], [], ⟨[], ⟨rfl, trivial⟩, trivial, rfl⟩, rfl, rfl, rfl⟩
    · replace h := cF h c
      refine .inl ?_
      refine .inl ?_
      refine .inr ⟨Int × Int, fun x => ([(1, .ptr 0 0), (3, .p (I x.1)), (4, .p (I x.2))], [.box 31 [.p (S a16.nm), .p (S a16.tx), .p (B a16.lf), .p (.lst (encM a16.ks))]]), fun x => m_spec_l12Term_j2 (m_spec_l12Term n) n a16 x.1 x.2 = some r, ?_, ?_⟩
      · refine .inl ?_
        refine .inl ?_
        refine And.intro (fun c => ?_) (fun c => ?_)
        · replace h := cT h c
          exact ⟨(1, 2), h, [], ⟨rfl, rfl, rfl, trivial⟩, ⟨⟨rfl, rfl, rfl, rfl, rfl, trivial⟩, trivial⟩, rfl⟩
        · replace h := cF h c
          refine .inl ?_
          refine And.intro (fun c => ?_) (fun c => ?_)
          · replace h := cT h c
            refine .inl ?_
            exact ⟨(1, 3), h, [], ⟨rfl, rfl, rfl, trivial⟩, ⟨⟨rfl, rfl, rfl, rfl, rfl, trivial⟩, trivial⟩, rfl⟩
          · replace h := cF h c
            refine .inl ?_
            refine And.intro (fun c => ?_) (fun c => ?_)
            · replace h := cT h c
              exact ⟨(0, 3), h, [], ⟨rfl, rfl, rfl, trivial⟩, ⟨⟨rfl, rfl, rfl, rfl, rfl, trivial⟩, trivial⟩, rfl⟩
            · replace h := cF h c
              refine .inl ?_
              refine .inl ?_
              refine And.intro (fun c => ?_) (fun c => ?_)
              · replace h := cT h c
                refine And.intro (fun _ => ?_) (fun c => absurd c (by decide))
                exact ⟨(0, 2), h, [], ⟨rfl, rfl, rfl, trivial⟩, ⟨⟨rfl, rfl, rfl, rfl, rfl, trivial⟩, trivial⟩, rfl⟩
              · replace h := cF h c
                refine .inl ?_
                refine And.intro (fun c => ?_) (fun c => ?_)
                · replace h := cT h c
                  refine And.intro (fun _ => ?_) (fun c => absurd c (by decide))
                  exact ⟨(0, 2), h, [], ⟨rfl, rfl, rfl, trivial⟩, ⟨⟨rfl, rfl, rfl, rfl, rfl, trivial⟩, trivial⟩, rfl⟩
                · replace h := cF h c
                  refine And.intro (fun c => ?_) (fun c => ?_)
                  · replace h := cT h c
                    exact ⟨(0, 2), h, [], ⟨rfl, rfl, rfl, trivial⟩, ⟨⟨rfl, rfl, rfl, rfl, rfl, trivial⟩, trivial⟩, rfl⟩
                  · replace h := cF h c
                    refine .inl ?_
                    replace h := Option.some.inj h
                    subst h
                    exact ⟨[.p (B false)], [], ⟨[], ⟨rfl, trivial⟩, trivial, rfl⟩, rfl, rfl, rfl⟩
      · rintro ⟨v18, v19⟩ h
        unfold m_spec_l12Term_j2 at h
        refine .inr ⟨Unit, fun x => ([(1, .ptr 0 0), (3, .p (I v18)), (4, .p (I v19))], [.box 31 [.p (S a16.nm), .p (S a16.tx), .p (B a16.lf), .p (.lst (encM a16.ks))]]), fun x => m_spec_l12Term_j3 (m_spec_l12Term n) n a16 v18 v19 = some r, ?_, ?_⟩
        · refine .inl ?_
          refine And.intro (fun c => ?_) (fun c => ?_)
          · replace h := cF h c
            refine And.intro (fun _ => ?_) (fun c => absurd c (by decide))
            refine And.intro (fun _ => ?_) (fun c => absurd c (by decide))
            refine And.intro (fun c => ?_) (fun c => ?_)
            · replace h := cT h c
              refine And.intro (fun _ => ?_) (fun c => absurd c (by decide))
              refine And.intro (fun _ => ?_) (fun c => absurd c (by decide))
              obtain ⟨x46, hx46, h⟩ := bsm h
              refine And.intro (ix0 hx46) (Exists.intro _ (And.intro (encM_get (ixg hx46)) (And.intro rfl ?_)))
              refine And.intro (fun _ => ?_) (fun c => absurd c (by decide))
              refine And.intro (fun _ => ?_) (fun c => absurd c (by decide))
              refine And.intro (fun _ => ?_) (fun c => absurd c (by decide))
              refine And.intro (fun _ => ?_) (fun c => absurd c (by decide))
              refine And.intro (fun c => ?_) (fun c => ?_)
              · replace h := cF h c
                refine And.intro (fun _ => ?_) (fun c => absurd c (by decide))
                refine And.intro (fun _ => ?_) (fun c => absurd c (by decide))
                obtain ⟨x47, hx47, h⟩ := bsm h
                refine And.intro (ix0 hx47) (Exists.intro _ (And.intro (encM_get (ixg hx47)) (And.intro rfl ?_)))
                refine And.intro (fun _ => ?_) (fun c => absurd c (by decide))
                refine And.intro (fun _ => ?_) (fun c => absurd c (by decide))
                refine And.intro (fun _ => ?_) (fun c => absurd c (by decide))
                refine And.intro (fun _ => ?_) (fun c => absurd c (by decide))
                refine And.intro (fun c => absurd c (by decide)) (fun _ => ?_)
                refine And.intro (fun _ => ?_) (fun c => absurd c (by decide))
                refine And.intro (fun c => ?_) (fun c => ?_)
                · replace h := cF h c
                  refine And.intro (fun _ => ?_) (fun c => absurd c (by decide))
                  refine And.intro (fun _ => ?_) (fun c => absurd c (by decide))
                  obtain ⟨x48, hx48, h⟩ := bsm h
                  refine And.intro (ix0 hx48) (Exists.intro _ (And.intro (encM_get (ixg hx48)) (And.intro rfl ?_)))
                  refine And.intro (fun _ => ?_) (fun c => absurd c (by decide))
                  refine And.intro (fun _ => ?_) (fun c => absurd c (by decide))
                  refine And.intro (fun _ => ?_) (fun c => absurd c (by decide))
                  obtain ⟨r89, hr89, h⟩ := bsm h
                  refine callA (c_spec_l01Name n x48.tx _ hr89) ?_
                  refine And.intro (fun _ => ?_) (fun c => absurd c (by decide))
                  refine And.intro (fun _ => ?_) (fun c => absurd c (by decide))
                  refine And.intro (fun c => absurd c (by decide)) (fun _ => ?_)
                  refine And.intro (fun _ => ?_) (fun c => absurd c (by decide))
                  refine And.intro (fun _ => ?_) (fun c => absurd c (by decide))
                  refine And.intro (fun c => absurd c (by decide)) (fun _ => ?_)
                  refine And.intro (fun c => ?_) (fun c => ?_)
                  · replace h := cT h c
                    refine .inl ?_
                    replace h := Option.some.inj h
                    subst h
                    exact ⟨[.p (B false)], [], ⟨[], ⟨rfl, trivial⟩, trivial, rfl⟩, rfl, rfl, rfl⟩
                  · replace h := cF h c
                    exact ⟨(), h, [], ⟨rfl, rfl, rfl, trivial⟩, ⟨⟨rfl, rfl, rfl, rfl, rfl, trivial⟩, trivial⟩, rfl⟩
                · replace h := cT h c
                  refine And.intro (fun c => absurd c (by decide)) (fun _ => ?_)
                  refine And.intro (fun c => absurd c (by decide)) (fun _ => ?_)
                  refine And.intro (fun c => absurd c (by decide)) (fun _ => ?_)
                  refine And.intro (fun c => absurd c (by decide)) (fun _ => ?_)
                  refine And.intro (fun c => absurd c (by decide)) (fun _ => ?_)
                  refine And.intro (fun c => absurd c (by decide)) (fun _ => ?_)
                  refine And.intro (fun _ => ?_) (fun c => absurd c (by decide))
                  refine And.intro (fun _ => ?_) (fun c => absurd c (by decide))
                  refine And.intro (fun _ => ?_) (fun c => absurd c (by decide))
                  refine And.intro (fun _ => ?_) (fun c => absurd c (by decide))
                  refine And.intro (fun c => absurd c (by decide)) (fun _ => ?_)
                  refine And.intro (fun _ => ?_) (fun c => absurd c (by decide))
                  refine .inl ?_
                  replace h := Option.some.inj h
                  subst h
                  exact ⟨[.p (B false)], [], ⟨[], ⟨rfl, trivial⟩, trivial, rfl⟩, rfl, rfl, rfl⟩
              · replace h := cT h c
                refine And.intro (fun c => absurd c (by decide)) (fun _ => ?_)
                refine And.intro (fun c => absurd c (by decide)) (fun _ => ?_)
                refine And.intro (fun c => absurd c (by decide)) (fun _ => ?_)
                refine And.intro (fun c => absurd c (by decide)) (fun _ => ?_)
                refine And.intro (fun c => absurd c (by decide)) (fun _ => ?_)
                refine And.intro (fun _ => ?_) (fun c => absurd c (by decide))
                refine And.intro (fun _ => ?_) (fun c => absurd c (by decide))
                refine And.intro (fun _ => ?_) (fun c => absurd c (by decide))
                refine And.intro (fun c => absurd c (by decide)) (fun _ => ?_)
                refine And.intro (fun c => absurd c (by decide)) (fun _ => ?_)
                refine And.intro (fun c => absurd c (by decide)) (fun _ => ?_)
                refine And.intro (fun c => absurd c (by decide)) (fun _ => ?_)
                refine And.intro (fun c => absurd c (by decide)) (fun _ => ?_)
                refine And.intro (fun c => absurd c (by decide)) (fun _ => ?_)
                refine And.intro (fun c => absurd c (by decide)) (fun _ => ?_)
                refine And.intro (fun _ => ?_) (fun c => absurd c (by decide))
                refine And.intro (fun _ => ?_) (fun c => absurd c (by decide))
                refine And.intro (fun _ => ?_) (fun c => absurd c (by decide))
                refine And.intro (fun _ => ?_) (fun c => absurd c (by decide))
                refine And.intro (fun c => absurd c (by decide)) (fun _ => ?_)
                refine And.intro (fun _ => ?_) (fun c => absurd c (by decide))
                refine .inl ?_
                replace h := Option.some.inj h
                subst h
                exact ⟨[.p (B false)], [], ⟨[], ⟨rfl, trivial⟩, trivial, rfl⟩, rfl, rfl, rfl⟩
            · replace h := cF h c
              refine And.intro (fun c => absurd c (by decide)) (fun _ => ?_)
              refine And.intro (fun c => absurd c (by decide)) (fun _ => ?_)
              refine And.intro (fun c => absurd c (by decide)) (fun _ => ?_)
              refine And.intro (fun c => absurd c (by decide)) (fun _ => ?_)
              refine And.intro (fun c => absurd c (by decide)) (fun _ => ?_)
              refine And.intro (fun c => absurd c (by decide)) (fun _ => ?_)
              refine And.intro (fun c => absurd c (by decide)) (fun _ => ?_)
              refine And.intro (fun c => absurd c (by decide)) (fun _ => ?_)
              refine And.intro (fun c => absurd c (by decide)) (fun _ => ?_)
              refine And.intro (fun _ => ?_) (fun c => absurd c (by decide))
              refine And.intro (fun c => absurd c (by decide)) (fun _ => ?_)
              refine And.intro (fun c => absurd c (by decide)) (fun _ => ?_)
              refine And.intro (fun c => absurd c (by decide)) (fun _ => ?_)
              exact ⟨(), h, [], ⟨rfl, rfl, rfl, trivial⟩, ⟨⟨rfl, rfl, rfl, rfl, rfl, trivial⟩, trivial⟩, rfl⟩
          · replace h := cT h c
            refine And.intro (fun c => absurd c (by decide)) (fun _ => ?_)
            refine And.intro (fun c => absurd c (by decide)) (fun _ => ?_)
            refine And.intro (fun c => absurd c (by decide)) (fun _ => ?_)
            refine And.intro (fun _ => ?_) (fun c => absurd c (by decide))
            refine And.intro (fun _ => ?_) (fun c => absurd c (by decide))
            refine .inl ?_
            replace h := Option.some.inj h
            subst h
            exact ⟨[.p (B false)], [], ⟨[], ⟨rfl, trivial⟩, trivial, rfl⟩, rfl, rfl, rfl⟩
        · rintro _ h
          unfold m_spec_l12Term_j3 at h
          refine .inr ⟨Unit, fun x => ([], []), fun x => m_spec_l12Term_j5 = some r, ?_, ?_⟩
          · refine .inl ?_
            refine ⟨Int, fun x => ([(1, .ptr 0 0), (4, .p (I v19)), (5, .p (I x))], [.box 31 [.p (S a16.nm), .p (S a16.tx), .p (B a16.lf), .p (.lst (encM a16.ks))]]), fun x k => m_spec_l12Term_l6 (m_spec_l12Term n) a16 v19 k x = some r, ⟨v18, n, h, [], ⟨rfl, rfl, rfl, trivial⟩, ⟨⟨rfl, rfl, rfl, rfl, rfl, trivial⟩, trivial⟩, rfl⟩, ?_⟩
            rintro v22 (_ | k6) h
            · exact ns h
            unfold m_spec_l12Term_l6 at h
            refine .inl ?_
            refine .inl ?_
            refine And.intro (fun c => ?_) (fun c => ?_)
            · replace h := cT h c
              refine .inl ?_
              refine .inl ?_
              obtain ⟨x45, hx45, h⟩ := bsm h
              refine And.intro (ix0 hx45) (Exists.intro _ (And.intro (encM_get (ixg hx45)) (And.intro rfl ?_)))
              obtain ⟨r88, hr88, h⟩ := bsm h
              refine callA (ih_spec_l12Term x45 _ hr88) ?_
              refine And.intro (fun c => ?_) (fun c => ?_)
              · replace h := cT h c
                refine .inl ?_
                replace h := Option.some.inj h
                subst h
                exact ⟨[.p (B false)], [], ⟨[], ⟨rfl, trivial⟩, trivial, rfl⟩, rfl, rfl, rfl⟩
              · replace h := cF h c
                exact ⟨(wr .i64 (v22 + 1)), k6, h, Nat.lt_succ_self _, [], ⟨rfl, rfl, rfl, trivial⟩, ⟨⟨rfl, rfl, rfl, rfl, rfl, trivial⟩, trivial⟩, rfl⟩
            · replace h := cF h c
              exact ⟨(), h, [], trivial, trivial, rfl⟩
          · rintro _ h
            unfold m_spec_l12Term_j5 at h
            refine .inl ?_
            replace h := Option.some.inj h
            subst h
            exact ⟨[.p (B true)], [], ⟨[], ⟨rfl, trivial⟩, trivial, rfl⟩, rfl, rfl, rfl⟩
def m_spec_TermOK (n : Nat) (a17 : Tree) : Option Bool :=
  (m_spec_TreeOK n a17).bind fun r90 =>
  bif r90 then (
    (m_spec_l12Term n a17).bind fun r91 =>
    some r91)
  else (
    some false)
theorem c_spec_TermOK (n : Nat) (a17 : Tree) (r : Bool) (h : m_spec_TermOK n a17 = some r) : FnP Try.prog 111 [a17.enc] [B r] := by
  unfold m_spec_TermOK at h
  refine fn_introJ Try.func111 rfl rfl rfl ?_
  refine .inl ?_
  refine .inl ?_
  obtain ⟨r90, hr90, h⟩ := bsm h
  refine callA (c_spec_TreeOK n a17 _ hr90) ?_
  refine And.intro (fun c => ?_) (fun c => ?_)
  · replace h := cT h c
    refine And.intro (fun _ => ?_) (fun c => absurd c (by decide))
    obtain ⟨r91, hr91, h⟩ := bsm h
    refine callA (c_spec_l12Term n a17 _ hr91) ?_
    refine And.intro (fun _ => ?_) (fun c => absurd c (by decide))
    replace h := Option.some.inj h
    subst h
    exact ⟨[.p (B r91)], [], ⟨[], ⟨rfl, trivial⟩, trivial, rfl⟩, rfl, rfl, rfl⟩
  · replace h := cF h c
    refine And.intro (fun c => absurd c (by decide)) (fun _ => ?_)
    refine And.intro (fun c => absurd c (by decide)) (fun _ => ?_)
    replace h := Option.some.inj h
    subst h
    exact ⟨[.p (B false)], [], ⟨[], ⟨rfl, trivial⟩, trivial, rfl⟩, rfl, rfl, rfl⟩
def m_spec_l12Down (n : Nat) (a18 : List Int) (a19 : Int) : Option (List Int) :=
  gp (([] : List Int).length + a18.length ≤ 68719476736) <|
  gp (a18.length + ([a19] : List Int).length ≤ 68719476736) <|
  some (a18 ++ [a19])
theorem c_spec_l12Down (n : Nat) (a18 : List Int) (a19 : Int) (r : List Int) (h : m_spec_l12Down n a18 a19 = some r) : FnP Try.prog 186 [.lst (a18.map I), I a19] [.lst (r.map I)] := by
  unfold m_spec_l12Down at h
  refine fn_introJ Try.func186 rfl rfl rfl ?_
  refine .inl ?_
  refine .inl ?_
  refine And.intro (show fits _ _ from trivial) ?_
  obtain ⟨g2, h⟩ := gpT h
  refine Exists.intro ([].map I) (And.intro (rowX (rowN (show [] = [].map I by simp) (show 0 = ([].map I).length by simp)) (fits_map (e := I) (fun _ => ⟨rfl, rfl⟩) _) (appfitJ (by first | simpa using g2 | (simp at g2 ⊢; omega)) rfl)) ?_)
  refine And.intro (show fits _ _ from ⟨⟨rfl, rfl⟩, trivial⟩) ?_
  obtain ⟨g1, h⟩ := gpT h
  refine Exists.intro ([I a19]) (And.intro (rowN rfl rfl) ?_)
  refine Exists.intro (a18.map I) (And.intro (rowX (rowN (show ([].map I) ++ (a18.map I) = a18.map I by simp) (show (0 + (a18.map I : List PV).length) = (a18.map I).length by simp)) (show fits _ _ from ⟨⟨rfl, rfl⟩, trivial⟩) (appfitJ (by first | simpa using g1 | (simp at g1 ⊢; omega)) rfl)) ?_)
  refine .inl (Exists.intro _ (And.intro (rowN (show (a18.map I) ++ [I a19] = (a18 ++ [a19]).map I by simp) (show ((0 + (a18.map I : List PV).length) + ([I a19] : List PV).length) = ((a18 ++ [a19]).map I).length by simp)) ?_))
  replace h := Option.some.inj h
  subst h
  exact ⟨[.p (.lst ((a18 ++ [a19]).map I))], [], ⟨[], ⟨rfl, trivial⟩, trivial, rfl⟩, rfl, rfl, rfl⟩
def m_spec_l12Scoper_walk_j4 (self_spec_l12Scoper_walk : gl12Scoper → Tree → List Int → Int → Option gl12Scoper) (n : Nat) (a20 : gl12Scoper) (a21 : Tree) (a22 : List Int) (v39 : Int) (v40 : List gSEdge) (v41 : List gSpot) (v42 : List gSpot) (v43 : List (List Int)) (v44 : List (List Int)) : Option gl12Scoper :=
  (ix a21.ks (wr .i64 (((encM a21.ks).length : Int) - 1))).bind fun x60 =>
  (m_spec_l12Down n a22 (wr .i64 (((encM a21.ks).length : Int) - 1))).bind fun r112 =>
  (self_spec_l12Scoper_walk (gl12Scoper.mk (gSg.mk v39 v40 v41 v42) v43 v44) x60 r112 a20.g_.scopes_).bind fun r113 =>
  some r113
def m_spec_l12Scoper_walk_j3 (self_spec_l12Scoper_walk : gl12Scoper → Tree → List Int → Int → Option gl12Scoper) (n : Nat) (a20 : gl12Scoper) (a21 : Tree) (a22 : List Int) (a23 : Int) : Option gl12Scoper :=
  gp (a20.g_.edges_.length + ([(gSEdge.mk a20.g_.scopes_ a23 1)] : List gSEdge).length ≤ 68719476736) <|
  (ix a21.ks 0).bind fun x56 =>
  gp (a20.g_.decls_.length + ([(gSpot.mk a20.g_.scopes_ x56.tx)] : List gSpot).length ≤ 68719476736) <|
  (m_spec_l12Down n a22 0).bind fun r105 =>
  gp (a20.decls_.length + ([r105] : List (List Int)).length ≤ 68719476736) <|
  bif (decide (a21.nm = ⟨#[76, 101, 116]⟩)) then (
    (ix a21.ks 1).bind fun x62 =>
    (m_spec_l12Down n a22 1).bind fun r116 =>
    (self_spec_l12Scoper_walk (gl12Scoper.mk (gSg.mk (wr .i64 (a20.g_.scopes_ + 1)) (a20.g_.edges_ ++ [(gSEdge.mk a20.g_.scopes_ a23 1)]) (a20.g_.decls_ ++ [(gSpot.mk a20.g_.scopes_ x56.tx)]) a20.g_.refs_) (a20.decls_ ++ [r105]) a20.refs_) x62 r116 a23).bind fun r117 =>
    m_spec_l12Scoper_walk_j4 self_spec_l12Scoper_walk n a20 a21 a22 r117.g_.scopes_ r117.g_.edges_ r117.g_.decls_ r117.g_.refs_ r117.decls_ r117.refs_)
  else (
    m_spec_l12Scoper_walk_j4 self_spec_l12Scoper_walk n a20 a21 a22 (wr .i64 (a20.g_.scopes_ + 1)) (a20.g_.edges_ ++ [(gSEdge.mk a20.g_.scopes_ a23 1)]) (a20.g_.decls_ ++ [(gSpot.mk a20.g_.scopes_ x56.tx)]) a20.g_.refs_ (a20.decls_ ++ [r105]) a20.refs_)
def m_spec_l12Scoper_walk_l6 (self_spec_l12Scoper_walk : gl12Scoper → Tree → List Int → Int → Option gl12Scoper) (n : Nat) (a21 : Tree) (a22 : List Int) (a23 : Int) : Nat → Int → Int → List gSEdge → List gSpot → List gSpot → List (List Int) → List (List Int) → Option gl12Scoper
  | 0, _, _, _, _, _, _, _ => none
  | k6 + 1, v46, v47, v48, v49, v50, v51, v52 =>
    bif (decide (v46 < ((encM a21.ks).length : Int))) then (
      (ix a21.ks v46).bind fun x68 =>
      (m_spec_l12Down n a22 v46).bind fun r128 =>
      (self_spec_l12Scoper_walk (gl12Scoper.mk (gSg.mk v47 v48 v49 v50) v51 v52) x68 r128 a23).bind fun r129 =>
      (m_spec_l12Scoper_walk_l6 self_spec_l12Scoper_walk n a21 a22 a23 k6) (wr .i64 (v46 + 1)) r129.g_.scopes_ r129.g_.edges_ r129.g_.decls_ r129.g_.refs_ r129.decls_ r129.refs_)
    else (
      some (gl12Scoper.mk (gSg.mk v47 v48 v49 v50) v51 v52))
def m_spec_l12Scoper_walk_j5 (self_spec_l12Scoper_walk : gl12Scoper → Tree → List Int → Int → Option gl12Scoper) (n : Nat) (a20 : gl12Scoper) (a21 : Tree) (a22 : List Int) (a23 : Int) (v45 : Bool) : Option gl12Scoper :=
  bif v45 then (
    m_spec_l12Scoper_walk_l6 self_spec_l12Scoper_walk n a21 a22 a23 n 0 a20.g_.scopes_ a20.g_.edges_ a20.g_.decls_ a20.g_.refs_ a20.decls_ a20.refs_)
  else (
    m_spec_l12Scoper_walk_j3 self_spec_l12Scoper_walk n a20 a21 a22 a23)
def m_spec_l12Scoper_walk : Nat → gl12Scoper → Tree → List Int → Int → Option gl12Scoper
  | 0, _, _, _, _ => none
  | n + 1, a20, a21, a22, a23 =>
    bif a21.lf then (
      bif (decide (a21.nm = ⟨#[73, 100]⟩)) then (
        gp (a20.g_.refs_.length + ([(gSpot.mk a23 a21.tx)] : List gSpot).length ≤ 68719476736) <|
        gp (a20.refs_.length + ([a22] : List (List Int)).length ≤ 68719476736) <|
        some (gl12Scoper.mk (gSg.mk a20.g_.scopes_ a20.g_.edges_ a20.g_.decls_ (a20.g_.refs_ ++ [(gSpot.mk a23 a21.tx)])) a20.decls_ (a20.refs_ ++ [a22])))
      else (
        some a20))
    else (
      bif (!decide (a21.nm = ⟨#[76, 97, 109]⟩)) then (
        m_spec_l12Scoper_walk_j5 (m_spec_l12Scoper_walk n) n a20 a21 a22 a23 (!decide (a21.nm = ⟨#[76, 101, 116]⟩)))
      else (
        m_spec_l12Scoper_walk_j5 (m_spec_l12Scoper_walk n) n a20 a21 a22 a23 false))
theorem c_spec_l12Scoper_walk : ∀ (n : Nat) (a20 : gl12Scoper) (a21 : Tree) (a22 : List Int) (a23 : Int) (r : gl12Scoper) (h : m_spec_l12Scoper_walk n a20 a21 a22 a23 = some r), Sy.Fn Try.prog 112 [.ptr 0 0, .p (a21.enc), .p (.lst (a22.map I)), .p (I a23)] [.box 158 [.p (I a20.g_.scopes_), .row 1 3 0 a20.g_.edges_.length, .row 2 2 0 a20.g_.decls_.length, .row 3 2 0 a20.g_.refs_.length, .row 4 1 0 a20.decls_.length, .row 5 1 0 a20.refs_.length], .row 165 3 (a20.g_.edges_.map gSEdge.enc), .row 71 2 (a20.g_.decls_.map gSpot.enc), .row 71 2 (a20.g_.refs_.map gSpot.enc), .row 49 1 (a20.decls_.map (eL I)), .row 49 1 (a20.refs_.map (eL I))] (fun rs τ' => rs = [] ∧ τ' = [.box 158 [.p (I r.g_.scopes_), .row 1 3 0 r.g_.edges_.length, .row 2 2 0 r.g_.decls_.length, .row 3 2 0 r.g_.refs_.length, .row 4 1 0 r.decls_.length, .row 5 1 0 r.refs_.length], .row 165 3 (r.g_.edges_.map gSEdge.enc), .row 71 2 (r.g_.decls_.map gSpot.enc), .row 71 2 (r.g_.refs_.map gSpot.enc), .row 49 1 (r.decls_.map (eL I)), .row 49 1 (r.refs_.map (eL I))])
  | 0, _, _, _, _, r, h => ns h
  | n + 1, a20, a21, a22, a23, r, h => by
    have ih_spec_l12Scoper_walk := c_spec_l12Scoper_walk n
    unfold m_spec_l12Scoper_walk at h
    refine fn_introJ Try.func112 rfl rfl rfl ?_
    refine .inl ?_
    refine .inl ?_
    refine .inl ?_
    refine And.intro (fun c => ?_) (fun c => ?_)
    · replace h := cT h c
      refine .inl ?_
      refine .inl ?_
      refine And.intro (fun c => ?_) (fun c => ?_)
      · replace h := cT h c
        refine .inl ?_
        refine ⟨[0, 1, 2, 3, 4, 5, 6, 7, 8, 9, 10, 11, 12, 13, 14, 1015], [3], by decide +kernel, ?_⟩
        refine And.intro (show fits _ _ from ⟨⟨rfl, rfl⟩, trivial⟩) ?_
        obtain ⟨g3, h⟩ := gpT h
        refine Exists.intro ([(gSpot.mk a23 a21.tx).enc]) (And.intro (rowN rfl rfl) ?_)
        refine Exists.intro (a20.g_.refs_.map gSpot.enc) (And.intro (rowX (rowN rfl (show a20.g_.refs_.length = (a20.g_.refs_.map gSpot.enc).length by simp)) (show fits _ _ from ⟨⟨rfl, rfl⟩, trivial⟩) (appfitJ (by first | simpa using g3 | (simp at g3 ⊢; omega)) rfl)) ?_)
        refine And.intro (show fits _ _ from ⟨⟨rfl, rfl⟩, trivial⟩) ?_
        obtain ⟨g2, h⟩ := gpT h
        refine Exists.intro ([.lst (a22.map I)]) (And.intro (rowN rfl rfl) ?_)
        refine Exists.intro (a20.refs_.map (eL I)) (And.intro (rowX (rowN rfl (show a20.refs_.length = (a20.refs_.map (eL I)).length by simp)) (show fits _ _ from ⟨⟨rfl, rfl⟩, trivial⟩) (appfitJ (by first | simpa using g2 | (simp at g2 ⊢; omega)) rfl)) ?_)
        replace h := Option.some.inj h
        subst h
        exact ⟨[], [.box 158 [.p (I (gl12Scoper.mk (gSg.mk a20.g_.scopes_ a20.g_.edges_ a20.g_.decls_ (a20.g_.refs_ ++ [(gSpot.mk a23 a21.tx)])) a20.decls_ (a20.refs_ ++ [a22])).g_.scopes_), .row 1 3 0 (gl12Scoper.mk (gSg.mk a20.g_.scopes_ a20.g_.edges_ a20.g_.decls_ (a20.g_.refs_ ++ [(gSpot.mk a23 a21.tx)])) a20.decls_ (a20.refs_ ++ [a22])).g_.edges_.length, .row 2 2 0 (gl12Scoper.mk (gSg.mk a20.g_.scopes_ a20.g_.edges_ a20.g_.decls_ (a20.g_.refs_ ++ [(gSpot.mk a23 a21.tx)])) a20.decls_ (a20.refs_ ++ [a22])).g_.decls_.length, .row 3 2 0 (gl12Scoper.mk (gSg.mk a20.g_.scopes_ a20.g_.edges_ a20.g_.decls_ (a20.g_.refs_ ++ [(gSpot.mk a23 a21.tx)])) a20.decls_ (a20.refs_ ++ [a22])).g_.refs_.length, .row 4 1 0 (gl12Scoper.mk (gSg.mk a20.g_.scopes_ a20.g_.edges_ a20.g_.decls_ (a20.g_.refs_ ++ [(gSpot.mk a23 a21.tx)])) a20.decls_ (a20.refs_ ++ [a22])).decls_.length, .row 5 1 0 (gl12Scoper.mk (gSg.mk a20.g_.scopes_ a20.g_.edges_ a20.g_.decls_ (a20.g_.refs_ ++ [(gSpot.mk a23 a21.tx)])) a20.decls_ (a20.refs_ ++ [a22])).refs_.length], .row 165 3 ((gl12Scoper.mk (gSg.mk a20.g_.scopes_ a20.g_.edges_ a20.g_.decls_ (a20.g_.refs_ ++ [(gSpot.mk a23 a21.tx)])) a20.decls_ (a20.refs_ ++ [a22])).g_.edges_.map gSEdge.enc), .row 71 2 ((gl12Scoper.mk (gSg.mk a20.g_.scopes_ a20.g_.edges_ a20.g_.decls_ (a20.g_.refs_ ++ [(gSpot.mk a23 a21.tx)])) a20.decls_ (a20.refs_ ++ [a22])).g_.decls_.map gSpot.enc), .row 71 2 ((gl12Scoper.mk (gSg.mk a20.g_.scopes_ a20.g_.edges_ a20.g_.decls_ (a20.g_.refs_ ++ [(gSpot.mk a23 a21.tx)])) a20.decls_ (a20.refs_ ++ [a22])).g_.refs_.map gSpot.enc), .row 49 1 ((gl12Scoper.mk (gSg.mk a20.g_.scopes_ a20.g_.edges_ a20.g_.decls_ (a20.g_.refs_ ++ [(gSpot.mk a23 a21.tx)])) a20.decls_ (a20.refs_ ++ [a22])).decls_.map (eL I)), .row 49 1 ((gl12Scoper.mk (gSg.mk a20.g_.scopes_ a20.g_.edges_ a20.g_.decls_ (a20.g_.refs_ ++ [(gSpot.mk a23 a21.tx)])) a20.decls_ (a20.refs_ ++ [a22])).refs_.map (eL I))], ⟨[], trivial, ⟨⟨rfl, rfl, (congrArg (AV.row 1 3 0) (show (gl12Scoper.mk (gSg.mk a20.g_.scopes_ a20.g_.edges_ a20.g_.decls_ (a20.g_.refs_ ++ [(gSpot.mk a23 a21.tx)])) a20.decls_ (a20.refs_ ++ [a22])).g_.edges_.length = a20.g_.edges_.length by simp)), (congrArg (AV.row 2 2 0) (show (gl12Scoper.mk (gSg.mk a20.g_.scopes_ a20.g_.edges_ a20.g_.decls_ (a20.g_.refs_ ++ [(gSpot.mk a23 a21.tx)])) a20.decls_ (a20.refs_ ++ [a22])).g_.decls_.length = a20.g_.decls_.length by simp)), (congrArg (AV.row 3 2 0) (show (gl12Scoper.mk (gSg.mk a20.g_.scopes_ a20.g_.edges_ a20.g_.decls_ (a20.g_.refs_ ++ [(gSpot.mk a23 a21.tx)])) a20.decls_ (a20.refs_ ++ [a22])).g_.refs_.length = (a20.g_.refs_.length + ([(gSpot.mk a23 a21.tx).enc] : List PV).length) by simp)), (congrArg (AV.row 4 1 0) (show (gl12Scoper.mk (gSg.mk a20.g_.scopes_ a20.g_.edges_ a20.g_.decls_ (a20.g_.refs_ ++ [(gSpot.mk a23 a21.tx)])) a20.decls_ (a20.refs_ ++ [a22])).decls_.length = a20.decls_.length by simp)), (congrArg (AV.row 5 1 0) (show (gl12Scoper.mk (gSg.mk a20.g_.scopes_ a20.g_.edges_ a20.g_.decls_ (a20.g_.refs_ ++ [(gSpot.mk a23 a21.tx)])) a20.decls_ (a20.refs_ ++ [a22])).refs_.length = (a20.refs_.length + ([.lst (a22.map I)] : List PV).length) by simp)), trivial⟩, rfl, rfl, (congrArg (Bk.row 71 2) (show (gl12Scoper.mk (gSg.mk a20.g_.scopes_ a20.g_.edges_ a20.g_.decls_ (a20.g_.refs_ ++ [(gSpot.mk a23 a21.tx)])) a20.decls_ (a20.refs_ ++ [a22])).g_.refs_.map gSpot.enc = (a20.g_.refs_.map gSpot.enc) ++ [(gSpot.mk a23 a21.tx).enc] by simp)), rfl, (congrArg (Bk.row 49 1) (show (gl12Scoper.mk (gSg.mk a20.g_.scopes_ a20.g_.edges_ a20.g_.decls_ (a20.g_.refs_ ++ [(gSpot.mk a23 a21.tx)])) a20.decls_ (a20.refs_ ++ [a22])).refs_.map (eL I) = (a20.refs_.map (eL I)) ++ [.lst (a22.map I)] by simp)), trivial⟩, rfl⟩, rfl, rfl, rfl⟩
      · replace h := cF h c
        replace h := Option.some.inj h
        subst h
        exact ⟨[], [.box 158 [.p (I a20.g_.scopes_), .row 1 3 0 a20.g_.edges_.length, .row 2 2 0 a20.g_.decls_.length, .row 3 2 0 a20.g_.refs_.length, .row 4 1 0 a20.decls_.length, .row 5 1 0 a20.refs_.length], .row 165 3 (a20.g_.edges_.map gSEdge.enc), .row 71 2 (a20.g_.decls_.map gSpot.enc), .row 71 2 (a20.g_.refs_.map gSpot.enc), .row 49 1 (a20.decls_.map (eL I)), .row 49 1 (a20.refs_.map (eL I))], ⟨[], trivial, ⟨⟨rfl, rfl, rfl, rfl, rfl, rfl, rfl, trivial⟩, rfl, rfl, rfl, rfl, rfl, trivial⟩, rfl⟩, rfl, rfl, rfl⟩
    · replace h := cF h c
      refine .inr ⟨Unit, fun x => ([(0, .ptr 0 0), (2, .p (.lst (a22.map I))), (3, .p (I a23)), (5, .ptr 6 0)], [.box 158 [.p (I a20.g_.scopes_), .row 1 3 0 a20.g_.edges_.length, .row 2 2 0 a20.g_.decls_.length, .row 3 2 0 a20.g_.refs_.length, .row 4 1 0 a20.decls_.length, .row 5 1 0 a20.refs_.length], .row 165 3 (a20.g_.edges_.map gSEdge.enc), .row 71 2 (a20.g_.decls_.map gSpot.enc), .row 71 2 (a20.g_.refs_.map gSpot.enc), .row 49 1 (a20.decls_.map (eL I)), .row 49 1 (a20.refs_.map (eL I)), .box 31 [.p (S a21.nm), .p (S a21.tx), .p (B a21.lf), .p (.lst (encM a21.ks))]]), fun x => m_spec_l12Scoper_walk_j3 (m_spec_l12Scoper_walk n) n a20 a21 a22 a23 = some r, ?_, ?_⟩
      · refine .inr ⟨Bool, fun x => ([(0, .ptr 0 0), (2, .p (.lst (a22.map I))), (3, .p (I a23)), (5, .ptr 6 0), (47, .p (B x))], [.box 158 [.p (I a20.g_.scopes_), .row 1 3 0 a20.g_.edges_.length, .row 2 2 0 a20.g_.decls_.length, .row 3 2 0 a20.g_.refs_.length, .row 4 1 0 a20.decls_.length, .row 5 1 0 a20.refs_.length], .row 165 3 (a20.g_.edges_.map gSEdge.enc), .row 71 2 (a20.g_.decls_.map gSpot.enc), .row 71 2 (a20.g_.refs_.map gSpot.enc), .row 49 1 (a20.decls_.map (eL I)), .row 49 1 (a20.refs_.map (eL I)), .box 31 [.p (S a21.nm), .p (S a21.tx), .p (B a21.lf), .p (.lst (encM a21.ks))]]), fun x => m_spec_l12Scoper_walk_j5 (m_spec_l12Scoper_walk n) n a20 a21 a22 a23 x = some r, ?_, ?_⟩
        · refine And.intro (fun c => ?_) (fun c => ?_)
          · replace h := cT h c
            refine And.intro (fun _ => ?_) (fun c => absurd c (by decide))
            refine And.intro (fun _ => ?_) (fun c => absurd c (by decide))
            refine And.intro (fun _ => ?_) (fun c => absurd c (by decide))
            exact ⟨(!decide (a21.nm = ⟨#[76, 101, 116]⟩)), h, [], ⟨rfl, rfl, rfl, rfl, rfl, trivial⟩, ⟨⟨rfl, rfl, rfl, rfl, rfl, rfl, rfl, trivial⟩, rfl, rfl, rfl, rfl, rfl, ⟨rfl, rfl, rfl, rfl, rfl, trivial⟩, trivial⟩, rfl⟩
          · replace h := cF h c
            refine And.intro (fun c => absurd c (by decide)) (fun _ => ?_)
            refine And.intro (fun c => absurd c (by decide)) (fun _ => ?_)
            refine And.intro (fun c => absurd c (by decide)) (fun _ => ?_)
            exact ⟨false, h, [], ⟨rfl, rfl, rfl, rfl, rfl, trivial⟩, ⟨⟨rfl, rfl, rfl, rfl, rfl, rfl, rfl, trivial⟩, rfl, rfl, rfl, rfl, rfl, ⟨rfl, rfl, rfl, rfl, rfl, trivial⟩, trivial⟩, rfl⟩
        · rintro v45 h
          unfold m_spec_l12Scoper_walk_j5 at h
          refine And.intro (fun c => ?_) (fun c => ?_)
          · replace h := cT h c
            refine .inl ?_
            refine .inl ?_
            refine ⟨Int × Int × List gSEdge × List gSpot × List gSpot × List (List Int) × List (List Int), fun x => ([(0, .ptr 0 0), (2, .p (.lst (a22.map I))), (3, .p (I a23)), (5, .ptr 6 0), (8, .p (I x.1))], [.box 158 [.p (I x.2.1), .row 1 3 0 x.2.2.1.length, .row 2 2 0 x.2.2.2.1.length, .row 3 2 0 x.2.2.2.2.1.length, .row 4 1 0 x.2.2.2.2.2.1.length, .row 5 1 0 x.2.2.2.2.2.2.length], .row 165 3 (x.2.2.1.map gSEdge.enc), .row 71 2 (x.2.2.2.1.map gSpot.enc), .row 71 2 (x.2.2.2.2.1.map gSpot.enc), .row 49 1 (x.2.2.2.2.2.1.map (eL I)), .row 49 1 (x.2.2.2.2.2.2.map (eL I)), .box 31 [.p (S a21.nm), .p (S a21.tx), .p (B a21.lf), .p (.lst (encM a21.ks))]]), fun x k => m_spec_l12Scoper_walk_l6 (m_spec_l12Scoper_walk n) n a21 a22 a23 k x.1 x.2.1 x.2.2.1 x.2.2.2.1 x.2.2.2.2.1 x.2.2.2.2.2.1 x.2.2.2.2.2.2 = some r, ⟨(0, a20.g_.scopes_, a20.g_.edges_, a20.g_.decls_, a20.g_.refs_, a20.decls_, a20.refs_), n, h, [], ⟨rfl, rfl, rfl, rfl, rfl, trivial⟩, ⟨⟨rfl, rfl, rfl, rfl, rfl, rfl, rfl, trivial⟩, rfl, rfl, rfl, rfl, rfl, ⟨rfl, rfl, rfl, rfl, rfl, trivial⟩, trivial⟩, rfl⟩, ?_⟩
            rintro ⟨v46, v47, v48, v49, v50, v51, v52⟩ (_ | k6) h
            · exact ns h
            unfold m_spec_l12Scoper_walk_l6 at h
            refine .inl ?_
            refine .inl ?_
            refine And.intro (fun c => ?_) (fun c => ?_)
            · replace h := cT h c
              refine .inl ?_
              refine ⟨[0, 1, 2, 3, 4, 5, 6, 7, 9, 8, 10], [0, 1, 2, 3, 4, 5], by decide +kernel, ?_⟩
              obtain ⟨x68, hx68, h⟩ := bsm h
              refine And.intro (ix0 hx68) (Exists.intro _ (And.intro (encM_get (ixg hx68)) (And.intro rfl ?_)))
              obtain ⟨r128, hr128, h⟩ := bsm h
              refine callA (c_spec_l12Down n a22 v46 _ hr128) ?_
              obtain ⟨r129, hr129, h⟩ := bsm h
              refine callW (args' := [.ptr 0 0, .p (x68.enc), .p (.lst (r128.map I)), .p (I a23)]) (τ0 := [.box 158 [.p (I (gl12Scoper.mk (gSg.mk v47 v48 v49 v50) v51 v52).g_.scopes_), .row 1 3 0 (gl12Scoper.mk (gSg.mk v47 v48 v49 v50) v51 v52).g_.edges_.length, .row 2 2 0 (gl12Scoper.mk (gSg.mk v47 v48 v49 v50) v51 v52).g_.decls_.length, .row 3 2 0 (gl12Scoper.mk (gSg.mk v47 v48 v49 v50) v51 v52).g_.refs_.length, .row 4 1 0 (gl12Scoper.mk (gSg.mk v47 v48 v49 v50) v51 v52).decls_.length, .row 5 1 0 (gl12Scoper.mk (gSg.mk v47 v48 v49 v50) v51 v52).refs_.length], .row 165 3 ((gl12Scoper.mk (gSg.mk v47 v48 v49 v50) v51 v52).g_.edges_.map gSEdge.enc), .row 71 2 ((gl12Scoper.mk (gSg.mk v47 v48 v49 v50) v51 v52).g_.decls_.map gSpot.enc), .row 71 2 ((gl12Scoper.mk (gSg.mk v47 v48 v49 v50) v51 v52).g_.refs_.map gSpot.enc), .row 49 1 ((gl12Scoper.mk (gSg.mk v47 v48 v49 v50) v51 v52).decls_.map (eL I)), .row 49 1 ((gl12Scoper.mk (gSg.mk v47 v48 v49 v50) v51 v52).refs_.map (eL I))]) [0, 1, 2, 3, 4, 5] [] (ih_spec_l12Scoper_walk (gl12Scoper.mk (gSg.mk v47 v48 v49 v50) v51 v52) x68 r128 a23 _ hr129) (fun K hk => hk) rfl ⟨rfl, rfl, rfl, rfl, trivial⟩ ⟨⟨rfl, rfl, (congrArg (AV.row 1 3 0) (show (gl12Scoper.mk (gSg.mk v47 v48 v49 v50) v51 v52).g_.edges_.length = v48.length by simp)), (congrArg (AV.row 2 2 0) (show (gl12Scoper.mk (gSg.mk v47 v48 v49 v50) v51 v52).g_.decls_.length = v49.length by simp)), (congrArg (AV.row 3 2 0) (show (gl12Scoper.mk (gSg.mk v47 v48 v49 v50) v51 v52).g_.refs_.length = v50.length by simp)), (congrArg (AV.row 4 1 0) (show (gl12Scoper.mk (gSg.mk v47 v48 v49 v50) v51 v52).decls_.length = v51.length by simp)), (congrArg (AV.row 5 1 0) (show (gl12Scoper.mk (gSg.mk v47 v48 v49 v50) v51 v52).refs_.length = v52.length by simp)), trivial⟩, rfl, rfl, rfl, rfl, rfl, trivial⟩ rfl ?_
              rintro rs τ' hl' ⟨rfl, rfl⟩
              exact ⟨((wr .i64 (v46 + 1)), r129.g_.scopes_, r129.g_.edges_, r129.g_.decls_, r129.g_.refs_, r129.decls_, r129.refs_), k6, h, Nat.lt_succ_self _, [], ⟨rfl, rfl, rfl, rfl, rfl, trivial⟩, ⟨⟨rfl, rfl, rfl, rfl, rfl, rfl, rfl, trivial⟩, rfl, rfl, rfl, rfl, rfl, ⟨rfl, rfl, rfl, rfl, rfl, trivial⟩, trivial⟩, rfl⟩
            · replace h := cF h c
              replace h := Option.some.inj h
              subst h
              exact ⟨[], [.box 158 [.p (I (gl12Scoper.mk (gSg.mk v47 v48 v49 v50) v51 v52).g_.scopes_), .row 1 3 0 (gl12Scoper.mk (gSg.mk v47 v48 v49 v50) v51 v52).g_.edges_.length, .row 2 2 0 (gl12Scoper.mk (gSg.mk v47 v48 v49 v50) v51 v52).g_.decls_.length, .row 3 2 0 (gl12Scoper.mk (gSg.mk v47 v48 v49 v50) v51 v52).g_.refs_.length, .row 4 1 0 (gl12Scoper.mk (gSg.mk v47 v48 v49 v50) v51 v52).decls_.length, .row 5 1 0 (gl12Scoper.mk (gSg.mk v47 v48 v49 v50) v51 v52).refs_.length], .row 165 3 ((gl12Scoper.mk (gSg.mk v47 v48 v49 v50) v51 v52).g_.edges_.map gSEdge.enc), .row 71 2 ((gl12Scoper.mk (gSg.mk v47 v48 v49 v50) v51 v52).g_.decls_.map gSpot.enc), .row 71 2 ((gl12Scoper.mk (gSg.mk v47 v48 v49 v50) v51 v52).g_.refs_.map gSpot.enc), .row 49 1 ((gl12Scoper.mk (gSg.mk v47 v48 v49 v50) v51 v52).decls_.map (eL I)), .row 49 1 ((gl12Scoper.mk (gSg.mk v47 v48 v49 v50) v51 v52).refs_.map (eL I))], ⟨[], trivial, ⟨⟨rfl, rfl, (congrArg (AV.row 1 3 0) (show (gl12Scoper.mk (gSg.mk v47 v48 v49 v50) v51 v52).g_.edges_.length = v48.length by simp)), (congrArg (AV.row 2 2 0) (show (gl12Scoper.mk (gSg.mk v47 v48 v49 v50) v51 v52).g_.decls_.length = v49.length by simp)), (congrArg (AV.row 3 2 0) (show (gl12Scoper.mk (gSg.mk v47 v48 v49 v50) v51 v52).g_.refs_.length = v50.length by simp)), (congrArg (AV.row 4 1 0) (show (gl12Scoper.mk (gSg.mk v47 v48 v49 v50) v51 v52).decls_.length = v51.length by simp)), (congrArg (AV.row 5 1 0) (show (gl12Scoper.mk (gSg.mk v47 v48 v49 v50) v51 v52).refs_.length = v52.length by simp)), trivial⟩, rfl, rfl, rfl, rfl, rfl, trivial⟩, rfl⟩, rfl, rfl, rfl⟩
          · replace h := cF h c
            exact ⟨(), h, [], ⟨rfl, rfl, rfl, rfl, trivial⟩, ⟨⟨rfl, rfl, rfl, rfl, rfl, rfl, rfl, trivial⟩, rfl, rfl, rfl, rfl, rfl, ⟨rfl, rfl, rfl, rfl, rfl, trivial⟩, trivial⟩, rfl⟩
      · rintro _ h
        unfold m_spec_l12Scoper_walk_j3 at h
        refine .inl ?_
        refine .inl ?_
        refine .inl ?_
        refine And.intro (show fits _ _ from ⟨⟨rfl, rfl⟩, trivial⟩) ?_
        obtain ⟨g8, h⟩ := gpT h
        refine Exists.intro ([(gSEdge.mk a20.g_.scopes_ a23 1).enc]) (And.intro (rowN rfl rfl) ?_)
        refine Exists.intro (a20.g_.edges_.map gSEdge.enc) (And.intro (rowX (rowN rfl (show a20.g_.edges_.length = (a20.g_.edges_.map gSEdge.enc).length by simp)) (show fits _ _ from ⟨⟨rfl, rfl⟩, trivial⟩) (appfitJ (by first | simpa using g8 | (simp at g8 ⊢; omega)) rfl)) ?_)
        refine .inl ?_
        refine ⟨[0, 1, 2, 3, 4, 5, 6, 7, 8, 9, 10, 11, 12, 13, 14, 15, 16, 17, 1018], [2], by decide +kernel, ?_⟩
        obtain ⟨x56, hx56, h⟩ := bsm h
        refine And.intro (ix0 hx56) (Exists.intro _ (And.intro (encM_get (ixg hx56)) (And.intro rfl ?_)))
        refine And.intro (show fits _ _ from ⟨⟨rfl, rfl⟩, trivial⟩) ?_
        obtain ⟨g7, h⟩ := gpT h
        refine Exists.intro ([(gSpot.mk a20.g_.scopes_ x56.tx).enc]) (And.intro (rowN rfl rfl) ?_)
        refine Exists.intro (a20.g_.decls_.map gSpot.enc) (And.intro (rowX (rowN rfl (show a20.g_.decls_.length = (a20.g_.decls_.map gSpot.enc).length by simp)) (show fits _ _ from ⟨⟨rfl, rfl⟩, trivial⟩) (appfitJ (by first | simpa using g7 | (simp at g7 ⊢; omega)) rfl)) ?_)
        refine .inl ?_
        refine ⟨[0, 1, 2, 3, 4, 5, 6, 7, 8, 9, 10, 1011], [4], by decide +kernel, ?_⟩
        obtain ⟨r105, hr105, h⟩ := bsm h
        refine callA (c_spec_l12Down n a22 0 _ hr105) ?_
        refine And.intro (show fits _ _ from ⟨⟨rfl, rfl⟩, trivial⟩) ?_
        obtain ⟨g6, h⟩ := gpT h
        refine Exists.intro ([.lst (r105.map I)]) (And.intro (rowN rfl rfl) ?_)
        refine Exists.intro (a20.decls_.map (eL I)) (And.intro (rowX (rowN rfl (show a20.decls_.length = (a20.decls_.map (eL I)).length by simp)) (show fits _ _ from ⟨⟨rfl, rfl⟩, trivial⟩) (appfitJ (by first | simpa using g6 | (simp at g6 ⊢; omega)) rfl)) ?_)
        refine .inr ⟨Int × List gSEdge × List gSpot × List gSpot × List (List Int) × List (List Int), fun x => ([(0, .ptr 0 0), (2, .p (.lst (a22.map I))), (5, .ptr 6 0), (9, .p (I a20.g_.scopes_))], [.box 158 [.p (I x.1), .row 1 3 0 x.2.1.length, .row 2 2 0 x.2.2.1.length, .row 3 2 0 x.2.2.2.1.length, .row 4 1 0 x.2.2.2.2.1.length, .row 5 1 0 x.2.2.2.2.2.length], .row 165 3 (x.2.1.map gSEdge.enc), .row 71 2 (x.2.2.1.map gSpot.enc), .row 71 2 (x.2.2.2.1.map gSpot.enc), .row 49 1 (x.2.2.2.2.1.map (eL I)), .row 49 1 (x.2.2.2.2.2.map (eL I)), .box 31 [.p (S a21.nm), .p (S a21.tx), .p (B a21.lf), .p (.lst (encM a21.ks))]]), fun x => m_spec_l12Scoper_walk_j4 (m_spec_l12Scoper_walk n) n a20 a21 a22 x.1 x.2.1 x.2.2.1 x.2.2.2.1 x.2.2.2.2.1 x.2.2.2.2.2 = some r, ?_, ?_⟩
        · refine .inl ?_
          refine And.intro (fun c => ?_) (fun c => ?_)
          · replace h := cT h c
            refine ⟨[0, 1, 2, 3, 4, 5, 7, 6, 8], [0, 1, 2, 3, 4, 5], by decide +kernel, ?_⟩
            obtain ⟨x62, hx62, h⟩ := bsm h
            refine And.intro (ix0 hx62) (Exists.intro _ (And.intro (encM_get (ixg hx62)) (And.intro rfl ?_)))
            obtain ⟨r116, hr116, h⟩ := bsm h
            refine callA (c_spec_l12Down n a22 1 _ hr116) ?_
            obtain ⟨r117, hr117, h⟩ := bsm h
            refine callW (args' := [.ptr 0 0, .p (x62.enc), .p (.lst (r116.map I)), .p (I a23)]) (τ0 := [.box 158 [.p (I (gl12Scoper.mk (gSg.mk (wr .i64 (a20.g_.scopes_ + 1)) (a20.g_.edges_ ++ [(gSEdge.mk a20.g_.scopes_ a23 1)]) (a20.g_.decls_ ++ [(gSpot.mk a20.g_.scopes_ x56.tx)]) a20.g_.refs_) (a20.decls_ ++ [r105]) a20.refs_).g_.scopes_), .row 1 3 0 (gl12Scoper.mk (gSg.mk (wr .i64 (a20.g_.scopes_ + 1)) (a20.g_.edges_ ++ [(gSEdge.mk a20.g_.scopes_ a23 1)]) (a20.g_.decls_ ++ [(gSpot.mk a20.g_.scopes_ x56.tx)]) a20.g_.refs_) (a20.decls_ ++ [r105]) a20.refs_).g_.edges_.length, .row 2 2 0 (gl12Scoper.mk (gSg.mk (wr .i64 (a20.g_.scopes_ + 1)) (a20.g_.edges_ ++ [(gSEdge.mk a20.g_.scopes_ a23 1)]) (a20.g_.decls_ ++ [(gSpot.mk a20.g_.scopes_ x56.tx)]) a20.g_.refs_) (a20.decls_ ++ [r105]) a20.refs_).g_.decls_.length, .row 3 2 0 (gl12Scoper.mk (gSg.mk (wr .i64 (a20.g_.scopes_ + 1)) (a20.g_.edges_ ++ [(gSEdge.mk a20.g_.scopes_ a23 1)]) (a20.g_.decls_ ++ [(gSpot.mk a20.g_.scopes_ x56.tx)]) a20.g_.refs_) (a20.decls_ ++ [r105]) a20.refs_).g_.refs_.length, .row 4 1 0 (gl12Scoper.mk (gSg.mk (wr .i64 (a20.g_.scopes_ + 1)) (a20.g_.edges_ ++ [(gSEdge.mk a20.g_.scopes_ a23 1)]) (a20.g_.decls_ ++ [(gSpot.mk a20.g_.scopes_ x56.tx)]) a20.g_.refs_) (a20.decls_ ++ [r105]) a20.refs_).decls_.length, .row 5 1 0 (gl12Scoper.mk (gSg.mk (wr .i64 (a20.g_.scopes_ + 1)) (a20.g_.edges_ ++ [(gSEdge.mk a20.g_.scopes_ a23 1)]) (a20.g_.decls_ ++ [(gSpot.mk a20.g_.scopes_ x56.tx)]) a20.g_.refs_) (a20.decls_ ++ [r105]) a20.refs_).refs_.length], .row 165 3 ((gl12Scoper.mk (gSg.mk (wr .i64 (a20.g_.scopes_ + 1)) (a20.g_.edges_ ++ [(gSEdge.mk a20.g_.scopes_ a23 1)]) (a20.g_.decls_ ++ [(gSpot.mk a20.g_.scopes_ x56.tx)]) a20.g_.refs_) (a20.decls_ ++ [r105]) a20.refs_).g_.edges_.map gSEdge.enc), .row 71 2 ((gl12Scoper.mk (gSg.mk (wr .i64 (a20.g_.scopes_ + 1)) (a20.g_.edges_ ++ [(gSEdge.mk a20.g_.scopes_ a23 1)]) (a20.g_.decls_ ++ [(gSpot.mk a20.g_.scopes_ x56.tx)]) a20.g_.refs_) (a20.decls_ ++ [r105]) a20.refs_).g_.decls_.map gSpot.enc), .row 71 2 ((gl12Scoper.mk (gSg.mk (wr .i64 (a20.g_.scopes_ + 1)) (a20.g_.edges_ ++ [(gSEdge.mk a20.g_.scopes_ a23 1)]) (a20.g_.decls_ ++ [(gSpot.mk a20.g_.scopes_ x56.tx)]) a20.g_.refs_) (a20.decls_ ++ [r105]) a20.refs_).g_.refs_.map gSpot.enc), .row 49 1 ((gl12Scoper.mk (gSg.mk (wr .i64 (a20.g_.scopes_ + 1)) (a20.g_.edges_ ++ [(gSEdge.mk a20.g_.scopes_ a23 1)]) (a20.g_.decls_ ++ [(gSpot.mk a20.g_.scopes_ x56.tx)]) a20.g_.refs_) (a20.decls_ ++ [r105]) a20.refs_).decls_.map (eL I)), .row 49 1 ((gl12Scoper.mk (gSg.mk (wr .i64 (a20.g_.scopes_ + 1)) (a20.g_.edges_ ++ [(gSEdge.mk a20.g_.scopes_ a23 1)]) (a20.g_.decls_ ++ [(gSpot.mk a20.g_.scopes_ x56.tx)]) a20.g_.refs_) (a20.decls_ ++ [r105]) a20.refs_).refs_.map (eL I))]) [0, 1, 2, 3, 4, 5] [] (ih_spec_l12Scoper_walk (gl12Scoper.mk (gSg.mk (wr .i64 (a20.g_.scopes_ + 1)) (a20.g_.edges_ ++ [(gSEdge.mk a20.g_.scopes_ a23 1)]) (a20.g_.decls_ ++ [(gSpot.mk a20.g_.scopes_ x56.tx)]) a20.g_.refs_) (a20.decls_ ++ [r105]) a20.refs_) x62 r116 a23 _ hr117) (fun K hk => hk) rfl ⟨rfl, rfl, rfl, rfl, trivial⟩ ⟨⟨rfl, rfl, (congrArg (AV.row 1 3 0) (show (gl12Scoper.mk (gSg.mk (wr .i64 (a20.g_.scopes_ + 1)) (a20.g_.edges_ ++ [(gSEdge.mk a20.g_.scopes_ a23 1)]) (a20.g_.decls_ ++ [(gSpot.mk a20.g_.scopes_ x56.tx)]) a20.g_.refs_) (a20.decls_ ++ [r105]) a20.refs_).g_.edges_.length = (a20.g_.edges_.length + ([(gSEdge.mk a20.g_.scopes_ a23 1).enc] : List PV).length) by simp)), (congrArg (AV.row 2 2 0) (show (gl12Scoper.mk (gSg.mk (wr .i64 (a20.g_.scopes_ + 1)) (a20.g_.edges_ ++ [(gSEdge.mk a20.g_.scopes_ a23 1)]) (a20.g_.decls_ ++ [(gSpot.mk a20.g_.scopes_ x56.tx)]) a20.g_.refs_) (a20.decls_ ++ [r105]) a20.refs_).g_.decls_.length = (a20.g_.decls_.length + ([(gSpot.mk a20.g_.scopes_ x56.tx).enc] : List PV).length) by simp)), (congrArg (AV.row 3 2 0) (show (gl12Scoper.mk (gSg.mk (wr .i64 (a20.g_.scopes_ + 1)) (a20.g_.edges_ ++ [(gSEdge.mk a20.g_.scopes_ a23 1)]) (a20.g_.decls_ ++ [(gSpot.mk a20.g_.scopes_ x56.tx)]) a20.g_.refs_) (a20.decls_ ++ [r105]) a20.refs_).g_.refs_.length = a20.g_.refs_.length by simp)), (congrArg (AV.row 4 1 0) (show (gl12Scoper.mk (gSg.mk (wr .i64 (a20.g_.scopes_ + 1)) (a20.g_.edges_ ++ [(gSEdge.mk a20.g_.scopes_ a23 1)]) (a20.g_.decls_ ++ [(gSpot.mk a20.g_.scopes_ x56.tx)]) a20.g_.refs_) (a20.decls_ ++ [r105]) a20.refs_).decls_.length = (a20.decls_.length + ([.lst (r105.map I)] : List PV).length) by simp)), (congrArg (AV.row 5 1 0) (show (gl12Scoper.mk (gSg.mk (wr .i64 (a20.g_.scopes_ + 1)) (a20.g_.edges_ ++ [(gSEdge.mk a20.g_.scopes_ a23 1)]) (a20.g_.decls_ ++ [(gSpot.mk a20.g_.scopes_ x56.tx)]) a20.g_.refs_) (a20.decls_ ++ [r105]) a20.refs_).refs_.length = a20.refs_.length by simp)), trivial⟩, (congrArg (Bk.row 165 3) (show (gl12Scoper.mk (gSg.mk (wr .i64 (a20.g_.scopes_ + 1)) (a20.g_.edges_ ++ [(gSEdge.mk a20.g_.scopes_ a23 1)]) (a20.g_.decls_ ++ [(gSpot.mk a20.g_.scopes_ x56.tx)]) a20.g_.refs_) (a20.decls_ ++ [r105]) a20.refs_).g_.edges_.map gSEdge.enc = (a20.g_.edges_.map gSEdge.enc) ++ [(gSEdge.mk a20.g_.scopes_ a23 1).enc] by simp)), (congrArg (Bk.row 71 2) (show (gl12Scoper.mk (gSg.mk (wr .i64 (a20.g_.scopes_ + 1)) (a20.g_.edges_ ++ [(gSEdge.mk a20.g_.scopes_ a23 1)]) (a20.g_.decls_ ++ [(gSpot.mk a20.g_.scopes_ x56.tx)]) a20.g_.refs_) (a20.decls_ ++ [r105]) a20.refs_).g_.decls_.map gSpot.enc = (a20.g_.decls_.map gSpot.enc) ++ [(gSpot.mk a20.g_.scopes_ x56.tx).enc] by simp)), rfl, (congrArg (Bk.row 49 1) (show (gl12Scoper.mk (gSg.mk (wr .i64 (a20.g_.scopes_ + 1)) (a20.g_.edges_ ++ [(gSEdge.mk a20.g_.scopes_ a23 1)]) (a20.g_.decls_ ++ [(gSpot.mk a20.g_.scopes_ x56.tx)]) a20.g_.refs_) (a20.decls_ ++ [r105]) a20.refs_).decls_.map (eL I) = (a20.decls_.map (eL I)) ++ [.lst (r105.map I)] by simp)), rfl, trivial⟩ rfl ?_
            rintro rs τ' hl' ⟨rfl, rfl⟩
            exact ⟨(r117.g_.scopes_, r117.g_.edges_, r117.g_.decls_, r117.g_.refs_, r117.decls_, r117.refs_), h, [], ⟨rfl, rfl, rfl, rfl, trivial⟩, ⟨⟨rfl, rfl, rfl, rfl, rfl, rfl, rfl, trivial⟩, rfl, rfl, rfl, rfl, rfl, ⟨rfl, rfl, rfl, rfl, rfl, trivial⟩, trivial⟩, rfl⟩
          · replace h := cF h c
            exact ⟨((wr .i64 (a20.g_.scopes_ + 1)), (a20.g_.edges_ ++ [(gSEdge.mk a20.g_.scopes_ a23 1)]), (a20.g_.decls_ ++ [(gSpot.mk a20.g_.scopes_ x56.tx)]), a20.g_.refs_, (a20.decls_ ++ [r105]), a20.refs_), h, [], ⟨rfl, rfl, rfl, rfl, trivial⟩, ⟨⟨rfl, rfl, (congrArg (AV.row 1 3 0) (show (a20.g_.edges_ ++ [(gSEdge.mk a20.g_.scopes_ a23 1)]).length = (a20.g_.edges_.length + ([(gSEdge.mk a20.g_.scopes_ a23 1).enc] : List PV).length) by simp)), (congrArg (AV.row 2 2 0) (show (a20.g_.decls_ ++ [(gSpot.mk a20.g_.scopes_ x56.tx)]).length = (a20.g_.decls_.length + ([(gSpot.mk a20.g_.scopes_ x56.tx).enc] : List PV).length) by simp)), rfl, (congrArg (AV.row 4 1 0) (show (a20.decls_ ++ [r105]).length = (a20.decls_.length + ([.lst (r105.map I)] : List PV).length) by simp)), rfl, trivial⟩, (congrArg (Bk.row 165 3) (show (a20.g_.edges_ ++ [(gSEdge.mk a20.g_.scopes_ a23 1)]).map gSEdge.enc = (a20.g_.edges_.map gSEdge.enc) ++ [(gSEdge.mk a20.g_.scopes_ a23 1).enc] by simp)), (congrArg (Bk.row 71 2) (show (a20.g_.decls_ ++ [(gSpot.mk a20.g_.scopes_ x56.tx)]).map gSpot.enc = (a20.g_.decls_.map gSpot.enc) ++ [(gSpot.mk a20.g_.scopes_ x56.tx).enc] by simp)), rfl, (congrArg (Bk.row 49 1) (show (a20.decls_ ++ [r105]).map (eL I) = (a20.decls_.map (eL I)) ++ [.lst (r105.map I)] by simp)), rfl, ⟨rfl, rfl, rfl, rfl, rfl, trivial⟩, trivial⟩, rfl⟩
        · rintro ⟨v39, v40, v41, v42, v43, v44⟩ h
          unfold m_spec_l12Scoper_walk_j4 at h
          refine ⟨[0, 1, 2, 3, 4, 5, 6, 7, 8, 9, 10, 11, 12, 13, 15, 14, 16], [0, 1, 2, 3, 4, 5], by decide +kernel, ?_⟩
          obtain ⟨x60, hx60, h⟩ := bsm h
          refine And.intro (ix0 hx60) (Exists.intro _ (And.intro (encM_get (ixg hx60)) (And.intro rfl ?_)))
          obtain ⟨r112, hr112, h⟩ := bsm h
          refine callA (c_spec_l12Down n a22 (wr .i64 (((encM a21.ks).length : Int) - 1)) _ hr112) ?_
          obtain ⟨r113, hr113, h⟩ := bsm h
          refine callW (args' := [.ptr 0 0, .p (x60.enc), .p (.lst (r112.map I)), .p (I a20.g_.scopes_)]) (τ0 := [.box 158 [.p (I (gl12Scoper.mk (gSg.mk v39 v40 v41 v42) v43 v44).g_.scopes_), .row 1 3 0 (gl12Scoper.mk (gSg.mk v39 v40 v41 v42) v43 v44).g_.edges_.length, .row 2 2 0 (gl12Scoper.mk (gSg.mk v39 v40 v41 v42) v43 v44).g_.decls_.length, .row 3 2 0 (gl12Scoper.mk (gSg.mk v39 v40 v41 v42) v43 v44).g_.refs_.length, .row 4 1 0 (gl12Scoper.mk (gSg.mk v39 v40 v41 v42) v43 v44).decls_.length, .row 5 1 0 (gl12Scoper.mk (gSg.mk v39 v40 v41 v42) v43 v44).refs_.length], .row 165 3 ((gl12Scoper.mk (gSg.mk v39 v40 v41 v42) v43 v44).g_.edges_.map gSEdge.enc), .row 71 2 ((gl12Scoper.mk (gSg.mk v39 v40 v41 v42) v43 v44).g_.decls_.map gSpot.enc), .row 71 2 ((gl12Scoper.mk (gSg.mk v39 v40 v41 v42) v43 v44).g_.refs_.map gSpot.enc), .row 49 1 ((gl12Scoper.mk (gSg.mk v39 v40 v41 v42) v43 v44).decls_.map (eL I)), .row 49 1 ((gl12Scoper.mk (gSg.mk v39 v40 v41 v42) v43 v44).refs_.map (eL I))]) [0, 1, 2, 3, 4, 5] [] (ih_spec_l12Scoper_walk (gl12Scoper.mk (gSg.mk v39 v40 v41 v42) v43 v44) x60 r112 a20.g_.scopes_ _ hr113) (fun K hk => hk) rfl ⟨rfl, rfl, rfl, rfl, trivial⟩ ⟨⟨rfl, rfl, (congrArg (AV.row 1 3 0) (show (gl12Scoper.mk (gSg.mk v39 v40 v41 v42) v43 v44).g_.edges_.length = v40.length by simp)), (congrArg (AV.row 2 2 0) (show (gl12Scoper.mk (gSg.mk v39 v40 v41 v42) v43 v44).g_.decls_.length = v41.length by simp)), (congrArg (AV.row 3 2 0) (show (gl12Scoper.mk (gSg.mk v39 v40 v41 v42) v43 v44).g_.refs_.length = v42.length by simp)), (congrArg (AV.row 4 1 0) (show (gl12Scoper.mk (gSg.mk v39 v40 v41 v42) v43 v44).decls_.length = v43.length by simp)), (congrArg (AV.row 5 1 0) (show (gl12Scoper.mk (gSg.mk v39 v40 v41 v42) v43 v44).refs_.length = v44.length by simp)), trivial⟩, rfl, rfl, rfl, rfl, rfl, trivial⟩ rfl ?_
          rintro rs τ' hl' ⟨rfl, rfl⟩
          replace h := Option.some.inj h
          subst h
          exact ⟨[], [.box 158 [.p (I r113.g_.scopes_), .row 1 3 0 r113.g_.edges_.length, .row 2 2 0 r113.g_.decls_.length, .row 3 2 0 r113.g_.refs_.length, .row 4 1 0 r113.decls_.length, .row 5 1 0 r113.refs_.length], .row 165 3 (r113.g_.edges_.map gSEdge.enc), .row 71 2 (r113.g_.decls_.map gSpot.enc), .row 71 2 (r113.g_.refs_.map gSpot.enc), .row 49 1 (r113.decls_.map (eL I)), .row 49 1 (r113.refs_.map (eL I))], ⟨[], trivial, ⟨⟨rfl, rfl, rfl, rfl, rfl, rfl, rfl, trivial⟩, rfl, rfl, rfl, rfl, rfl, trivial⟩, rfl⟩, rfl, rfl, rfl⟩
def m_spec_ScopesOf (n : Nat) (a24 : Tree) : Option (gSg × List (List Int) × List (List Int) × Int) :=
  (m_spec_TermOK n a24).bind fun r130 =>
  bif (!r130) then (
    some ((gSg.mk 0 [] [] []), [], [], 1))
  else (
    (m_spec_l12Scoper_walk n (gl12Scoper.mk (gSg.mk 1 [] [] []) [] []) a24 [] 0).bind fun r131 =>
    (m_spec_SgOK n r131.g_).bind fun r132 =>
    bif (!r132) then (
      some ((gSg.mk 0 [] [] []), [], [], 3))
    else (
      some (r131.g_, r131.decls_, r131.refs_, 0)))
theorem c_spec_ScopesOf (n : Nat) (a24 : Tree) (r : gSg × List (List Int) × List (List Int) × Int) (h : m_spec_ScopesOf n a24 = some r) : FnP Try.prog 43 [a24.enc] [r.1.enc, .lst (r.2.1.map (eL I)), .lst (r.2.2.1.map (eL I)), I r.2.2.2] := by
  unfold m_spec_ScopesOf at h
  refine fn_introJ Try.func43 rfl rfl rfl ?_
  refine .inl ?_
  refine .inl ?_
  refine .inl ?_
  obtain ⟨r130, hr130, h⟩ := bsm h
  refine callA (c_spec_TermOK n a24 _ hr130) ?_
  refine And.intro (fun c => ?_) (fun c => ?_)
  · replace h := cT h c
    refine .inl ?_
    refine And.intro (show fits _ _ from trivial) ?_
    refine And.intro (show fits _ _ from trivial) ?_
    refine .inl ?_
    refine .inl (Exists.intro _ (And.intro (rowN (show [] = [].map (eL I) by simp) (show 0 = ([].map (eL I)).length by simp)) ?_))
    refine .inl (Exists.intro _ (And.intro (rowN (show [] = [].map (eL I) by simp) (show 0 = ([].map (eL I)).length by simp)) ?_))
    replace h := Option.some.inj h
    subst h
    exact ⟨[.p ((gSg.mk 0 [] [] []).enc), .p (.lst ([].map (eL I))), .p (.lst ([].map (eL I))), .p (I 1)], [], ⟨[], ⟨rfl, rfl, rfl, rfl, trivial⟩, trivial, rfl⟩, rfl, rfl, rfl⟩
  · replace h := cF h c
    refine .inl ?_
    refine .inl ?_
    refine And.intro (show fits _ _ from trivial) ?_
    obtain ⟨r131, hr131, h⟩ := bsm h
    refine callW (args' := [.ptr 0 0, .p (a24.enc), .p (.lst ([].map I)), .p (I 0)]) (τ0 := [.box 158 [.p (I (gl12Scoper.mk (gSg.mk 1 [] [] []) [] []).g_.scopes_), .row 1 3 0 (gl12Scoper.mk (gSg.mk 1 [] [] []) [] []).g_.edges_.length, .row 2 2 0 (gl12Scoper.mk (gSg.mk 1 [] [] []) [] []).g_.decls_.length, .row 3 2 0 (gl12Scoper.mk (gSg.mk 1 [] [] []) [] []).g_.refs_.length, .row 4 1 0 (gl12Scoper.mk (gSg.mk 1 [] [] []) [] []).decls_.length, .row 5 1 0 (gl12Scoper.mk (gSg.mk 1 [] [] []) [] []).refs_.length], .row 165 3 ((gl12Scoper.mk (gSg.mk 1 [] [] []) [] []).g_.edges_.map gSEdge.enc), .row 71 2 ((gl12Scoper.mk (gSg.mk 1 [] [] []) [] []).g_.decls_.map gSpot.enc), .row 71 2 ((gl12Scoper.mk (gSg.mk 1 [] [] []) [] []).g_.refs_.map gSpot.enc), .row 49 1 ((gl12Scoper.mk (gSg.mk 1 [] [] []) [] []).decls_.map (eL I)), .row 49 1 ((gl12Scoper.mk (gSg.mk 1 [] [] []) [] []).refs_.map (eL I))]) [2] [(165, 3), (71, 2), (71, 2), (49, 1), (49, 1)] (c_spec_l12Scoper_walk n (gl12Scoper.mk (gSg.mk 1 [] [] []) [] []) a24 [] 0 _ hr131) (fun K hk => Or.inl (Exists.intro _ (And.intro (rowN (show [] = [].map I by simp) (show 0 = ([].map I).length by simp)) hk))) rfl ⟨rfl, rfl, (congrArg (fun z => AV.p (.lst z)) (show [].map I = [].map I by simp)), rfl, trivial⟩ ⟨⟨rfl, rfl, ⟨rfl, rfl⟩, ⟨rfl, rfl⟩, ⟨rfl, rfl⟩, ⟨rfl, rfl⟩, ⟨rfl, rfl⟩, trivial⟩, rfl, rfl, rfl, rfl, rfl, trivial⟩ rfl ?_
    rintro rs τ' hl' ⟨rfl, rfl⟩
    refine .inl ?_
    refine .inl ?_
    obtain ⟨r132, hr132, h⟩ := bsm h
    refine callP (c_spec_SgOK n r131.g_ _ hr132) (fun K hk => Exists.intro _ (And.intro (rowN rfl (show r131.g_.edges_.length = (r131.g_.edges_.map gSEdge.enc).length by simp)) (Exists.intro _ (And.intro (rowN rfl (show r131.g_.decls_.length = (r131.g_.decls_.map gSpot.enc).length by simp)) (Exists.intro _ (And.intro (rowN rfl (show r131.g_.refs_.length = (r131.g_.refs_.map gSpot.enc).length by simp)) hk)))))) ?_
    refine And.intro (fun c => ?_) (fun c => ?_)
    · replace h := cT h c
      refine .inl ?_
      refine And.intro (show fits _ _ from trivial) ?_
      refine And.intro (show fits _ _ from trivial) ?_
      refine .inl ?_
      refine .inl (Exists.intro _ (And.intro (rowN (show [] = [].map (eL I) by simp) (show 0 = ([].map (eL I)).length by simp)) ?_))
      refine .inl (Exists.intro _ (And.intro (rowN (show [] = [].map (eL I) by simp) (show 0 = ([].map (eL I)).length by simp)) ?_))
      replace h := Option.some.inj h
      subst h
      exact ⟨[.p ((gSg.mk 0 [] [] []).enc), .p (.lst ([].map (eL I))), .p (.lst ([].map (eL I))), .p (I 3)], [], ⟨[], ⟨rfl, rfl, rfl, rfl, trivial⟩, trivial, rfl⟩, rfl, rfl, rfl⟩
    · replace h := cF h c
      refine .inl ?_
      refine ⟨[0, 1, 2, 3, 4, 5, 6, 7, 8, 9, 10, 11, 12, 13, 14, 15], [1], by decide +kernel, ?_⟩
      refine .inl (Exists.intro _ (And.intro (rowN rfl (show r131.g_.edges_.length = (r131.g_.edges_.map gSEdge.enc).length by simp)) (Exists.intro _ (And.intro (rowN rfl (show r131.g_.decls_.length = (r131.g_.decls_.map gSpot.enc).length by simp)) (Exists.intro _ (And.intro (rowN rfl (show r131.g_.refs_.length = (r131.g_.refs_.map gSpot.enc).length by simp)) ?_))))))
      refine .inl (Exists.intro _ (And.intro (rowN rfl (show r131.decls_.length = (r131.decls_.map (eL I)).length by simp)) ?_))
      refine .inl (Exists.intro _ (And.intro (rowN rfl (show r131.refs_.length = (r131.refs_.map (eL I)).length by simp)) ?_))
      replace h := Option.some.inj h
      subst h
      exact ⟨[.p (r131.g_.enc), .p (.lst (r131.decls_.map (eL I))), .p (.lst (r131.refs_.map (eL I))), .p (I 0)], [], ⟨[], ⟨rfl, rfl, rfl, rfl, trivial⟩, trivial, rfl⟩, rfl, rfl, rfl⟩
def m_spec_l12DrawSg_j12 (r133 : Int × Cu) (v79 : List gSEdge) (v87 : List gSpot) (v94 : Cu) (v95 : List gSpot) : Option (gSg × Cu) :=
  some ((gSg.mk (wr .i64 (1 + r133.1)) v79 v87 v95), v94)
def m_spec_l12DrawSg_l13 (n : Nat) (r133 : Int × Cu) (v79 : List gSEdge) (v87 : List gSpot) : Nat → Int → Cu → List gSpot → Option (gSg × Cu)
  | 0, _, _, _ => none
  | k13 + 1, v96, v97, v98 =>
    bif (decide (v96 > 0)) then (
      (m_spec_l01Cur_pick n v97 (wr .i64 (1 + r133.1))).bind fun r208 =>
      (m_spec_l01Cur_pick n r208.2 3).bind fun r209 =>
      (ix ([⟨#[120]⟩, ⟨#[121]⟩, ⟨#[122]⟩]) r209.1).bind fun x86 =>
      gp (v98.length + ([(gSpot.mk r208.1 x86)] : List gSpot).length ≤ 68719476736) <|
      (m_spec_l12DrawSg_l13 n r133 v79 v87 k13) (wr .i64 (v96 - 1)) r209.2 (v98 ++ [(gSpot.mk r208.1 x86)]))
    else (
      m_spec_l12DrawSg_j12 r133 v79 v87 v97 v98)
def m_spec_l12DrawSg_j10 (n : Nat) (r133 : Int × Cu) (v79 : List gSEdge) (v86 : Cu) (v87 : List gSpot) : Option (gSg × Cu) :=
  (m_spec_l01Cur_pick n v86 8).bind fun r197 =>
  m_spec_l12DrawSg_l13 n r133 v79 v87 n r197.1 r197.2 []
def m_spec_l12DrawSg_l14 (n : Nat) (r133 : Int × Cu) (v79 : List gSEdge) : Nat → Int → Cu → List gSpot → Option (gSg × Cu)
  | 0, _, _, _ => none
  | k14 + 1, v102, v103, v104 =>
    bif (decide (v102 > 0)) then (
      (m_spec_l01Cur_pick n v103 (wr .i64 (1 + r133.1))).bind fun r221 =>
      (m_spec_l01Cur_pick n r221.2 3).bind fun r222 =>
      (ix ([⟨#[120]⟩, ⟨#[121]⟩, ⟨#[122]⟩]) r222.1).bind fun x92 =>
      gp (v104.length + ([(gSpot.mk r221.1 x92)] : List gSpot).length ≤ 68719476736) <|
      (m_spec_l12DrawSg_l14 n r133 v79 k14) (wr .i64 (v102 - 1)) r222.2 (v104 ++ [(gSpot.mk r221.1 x92)]))
    else (
      m_spec_l12DrawSg_j10 n r133 v79 v103 v104)
def m_spec_l12DrawSg_j8 (n : Nat) (r133 : Int × Cu) (v78 : Cu) (v79 : List gSEdge) : Option (gSg × Cu) :=
  (m_spec_l01Cur_pick n v78 8).bind fun r210 =>
  m_spec_l12DrawSg_l14 n r133 v79 n r210.1 r210.2 []
def m_spec_l12DrawSg_j21 (n : Nat) (r133 : Int × Cu) (v112 : Int) (v114 : List gSEdge) (rec19 : Int → Cu → List gSEdge → Option (gSg × Cu)) (v124 : Int) (v125 : Cu) : Option (gSg × Cu) :=
  (m_spec_l01Cur_pick n v125 (wr .i64 (1 + r133.1))).bind fun r257 =>
  (m_spec_l01Cur_pick n r257.2 (wr .i64 (1 + r133.1))).bind fun r258 =>
  gp (v114.length + ([(gSEdge.mk r257.1 r258.1 v124)] : List gSEdge).length ≤ 68719476736) <|
  rec19 (wr .i64 (v112 - 1)) r258.2 (v114 ++ [(gSEdge.mk r257.1 r258.1 v124)])
def m_spec_l12DrawSg_l19 (n : Nat) (r133 : Int × Cu) : Nat → Int → Cu → List gSEdge → Option (gSg × Cu)
  | 0, _, _, _ => none
  | k19 + 1, v112, v113, v114 =>
    bif (decide (v112 > 0)) then (
      (m_spec_l01Cur_pick n v113 3).bind fun r259 =>
      bif (r259.1 == 0) then (
        m_spec_l12DrawSg_j21 n r133 v112 v114 (m_spec_l12DrawSg_l19 n r133 k19) 2 r259.2)
      else (
        m_spec_l12DrawSg_j21 n r133 v112 v114 (m_spec_l12DrawSg_l19 n r133 k19) 1 r259.2))
    else (
      m_spec_l12DrawSg_j8 n r133 v113 v114)
def m_spec_l12DrawSg (n : Nat) (a25 : Cu) : Option (gSg × Cu) :=
  (m_spec_l01Cur_pick n a25 6).bind fun r133 =>
  (m_spec_l01Cur_pick n r133.2 8).bind fun r223 =>
  m_spec_l12DrawSg_l19 n r133 n r223.1 r223.2 []
theorem c_spec_l12DrawSg (n : Nat) (a25 : Cu) (r : gSg × Cu) (h : m_spec_l12DrawSg n a25 = some r) : Sy.Fn Try.prog 176 [.ptr 0 0] [.box 213 [.p (.lst (bl a25.code)), .p (I a25.at_), .p (I a25.seed)]] (fun rs τ' => rs = [.agg [.p (I r.1.scopes_), .row 1 3 0 r.1.edges_.length, .row 2 2 0 r.1.decls_.length, .row 3 2 0 r.1.refs_.length]] ∧ τ' = [.box 213 [.p (.lst (bl r.2.code)), .p (I r.2.at_), .p (I r.2.seed)], .row 165 3 (r.1.edges_.map gSEdge.enc), .row 71 2 (r.1.decls_.map gSpot.enc), .row 71 2 (r.1.refs_.map gSpot.enc)]) := by
  unfold m_spec_l12DrawSg at h
  refine fn_introJ Try.func176 rfl rfl rfl ?_
  refine .inl ?_
  refine .inl ?_
  obtain ⟨r133, hr133, h⟩ := bsm h
  refine callW (args' := [.ptr 0 0, .p (I 6)]) (τ0 := [.box 213 [.p (.lst (bl a25.code)), .p (I a25.at_), .p (I a25.seed)]]) [0] [] (c_spec_l01Cur_pick n a25 6 _ hr133) (fun K hk => hk) rfl ⟨rfl, rfl, trivial⟩ ⟨⟨rfl, rfl, rfl, rfl, trivial⟩, trivial⟩ rfl ?_
  rintro rs τ' hl' ⟨rfl, rfl⟩
  refine .inr ⟨Cu × List gSEdge, fun x => ([(0, .ptr 0 0), (2, .ptr 1 0), (3, .ptr 2 0)], [.box 213 [.p (.lst (bl x.1.code)), .p (I x.1.at_), .p (I x.1.seed)], .box 65 [.p (I 0), .tl [], .tl [], .tl []], .box 65 [.p (I (wr .i64 (1 + r133.1))), .row 3 3 0 x.2.length, .tl [], .tl []], .row 165 3 (x.2.map gSEdge.enc)]), fun x => m_spec_l12DrawSg_j8 n r133 x.1 x.2 = some r, ?_, ?_⟩
  · refine .inl ?_
    obtain ⟨r223, hr223, h⟩ := bsm h
    refine callW (args' := [.ptr 0 0, .p (I 8)]) (τ0 := [.box 213 [.p (.lst (bl r133.2.code)), .p (I r133.2.at_), .p (I r133.2.seed)]]) [0] [] (c_spec_l01Cur_pick n r133.2 8 _ hr223) (fun K hk => hk) rfl ⟨rfl, rfl, trivial⟩ ⟨⟨rfl, rfl, rfl, rfl, trivial⟩, trivial⟩ rfl ?_
    rintro rs τ' hl' ⟨rfl, rfl⟩
    refine ⟨Int × Cu × List gSEdge, fun x => ([(0, .ptr 0 0), (2, .ptr 1 0), (3, .ptr 2 0), (4, .p (I x.1))], [.box 213 [.p (.lst (bl x.2.1.code)), .p (I x.2.1.at_), .p (I x.2.1.seed)], .box 65 [.p (I 0), .tl [], .tl [], .tl []], .box 65 [.p (I (wr .i64 (1 + r133.1))), .row 3 3 0 x.2.2.length, .tl [], .tl []], .row 165 3 (x.2.2.map gSEdge.enc)]), fun x k => m_spec_l12DrawSg_l19 n r133 k x.1 x.2.1 x.2.2 = some r, ⟨(r223.1, r223.2, []), n, h, [(165, 3)], ⟨rfl, rfl, rfl, rfl, trivial⟩, ⟨⟨rfl, rfl, rfl, rfl, trivial⟩, ⟨rfl, rfl, rfl, rfl, rfl, trivial⟩, ⟨rfl, rfl, ⟨rfl, rfl⟩, rfl, rfl, trivial⟩, rfl, trivial⟩, rfl⟩, ?_⟩
    rintro ⟨v112, v113, v114⟩ (_ | k19) h
    · exact ns h
    unfold m_spec_l12DrawSg_l19 at h
    refine .inl ?_
    refine .inl ?_
    refine And.intro (fun c => ?_) (fun c => ?_)
    · replace h := cT h c
      refine .inl ?_
      refine .inl ?_
      refine .inr ⟨Int × Cu, fun x => ([(0, .ptr 0 0), (2, .ptr 1 0), (3, .ptr 2 0), (4, .p (I v112)), (5, .p (I x.1))], [.box 213 [.p (.lst (bl x.2.code)), .p (I x.2.at_), .p (I x.2.seed)], .box 65 [.p (I 0), .tl [], .tl [], .tl []], .box 65 [.p (I (wr .i64 (1 + r133.1))), .row 3 3 0 v114.length, .tl [], .tl []], .row 165 3 (v114.map gSEdge.enc)]), fun x => m_spec_l12DrawSg_j21 n r133 v112 v114 (m_spec_l12DrawSg_l19 n r133 k19) x.1 x.2 = some r, ?_, ?_⟩
      · refine .inl ?_
        obtain ⟨r259, hr259, h⟩ := bsm h
        refine callW (args' := [.ptr 0 0, .p (I 3)]) (τ0 := [.box 213 [.p (.lst (bl v113.code)), .p (I v113.at_), .p (I v113.seed)]]) [0] [] (c_spec_l01Cur_pick n v113 3 _ hr259) (fun K hk => hk) rfl ⟨rfl, rfl, trivial⟩ ⟨⟨rfl, rfl, rfl, rfl, trivial⟩, trivial⟩ rfl ?_
        rintro rs τ' hl' ⟨rfl, rfl⟩
        refine And.intro (fun c => ?_) (fun c => ?_)
        · replace h := cT h c
          exact ⟨(2, r259.2), h, [], ⟨rfl, rfl, rfl, rfl, rfl, trivial⟩, ⟨⟨rfl, rfl, rfl, rfl, trivial⟩, ⟨rfl, rfl, rfl, rfl, rfl, trivial⟩, ⟨rfl, rfl, rfl, rfl, rfl, trivial⟩, rfl, trivial⟩, rfl⟩
        · replace h := cF h c
          exact ⟨(1, r259.2), h, [], ⟨rfl, rfl, rfl, rfl, rfl, trivial⟩, ⟨⟨rfl, rfl, rfl, rfl, trivial⟩, ⟨rfl, rfl, rfl, rfl, rfl, trivial⟩, ⟨rfl, rfl, rfl, rfl, rfl, trivial⟩, rfl, trivial⟩, rfl⟩
      · rintro ⟨v124, v125⟩ h
        unfold m_spec_l12DrawSg_j21 at h
        refine ⟨[0, 1, 2, 3, 4, 6, 7, 8, 10, 5, 9, 11, 12, 13, 14, 1015], [0, 3], by decide +kernel, ?_⟩
        obtain ⟨r257, hr257, h⟩ := bsm h
        refine callW (args' := [.ptr 0 0, .p (I (wr .i64 (1 + r133.1)))]) (τ0 := [.box 213 [.p (.lst (bl v125.code)), .p (I v125.at_), .p (I v125.seed)]]) [0] [] (c_spec_l01Cur_pick n v125 (wr .i64 (1 + r133.1)) _ hr257) (fun K hk => hk) rfl ⟨rfl, rfl, trivial⟩ ⟨⟨rfl, rfl, rfl, rfl, trivial⟩, trivial⟩ rfl ?_
        rintro rs τ' hl' ⟨rfl, rfl⟩
        obtain ⟨r258, hr258, h⟩ := bsm h
        refine callW (args' := [.ptr 0 0, .p (I (wr .i64 (1 + r133.1)))]) (τ0 := [.box 213 [.p (.lst (bl r257.2.code)), .p (I r257.2.at_), .p (I r257.2.seed)]]) [0] [] (c_spec_l01Cur_pick n r257.2 (wr .i64 (1 + r133.1)) _ hr258) (fun K hk => hk) rfl ⟨rfl, rfl, trivial⟩ ⟨⟨rfl, rfl, rfl, rfl, trivial⟩, trivial⟩ rfl ?_
        rintro rs τ' hl' ⟨rfl, rfl⟩
        refine And.intro (show fits _ _ from ⟨⟨rfl, rfl⟩, trivial⟩) ?_
        obtain ⟨g48, h⟩ := gpT h
        refine Exists.intro ([(gSEdge.mk r257.1 r258.1 v124).enc]) (And.intro (rowN rfl rfl) ?_)
        refine Exists.intro (v114.map gSEdge.enc) (And.intro (rowX (rowN rfl (show v114.length = (v114.map gSEdge.enc).length by simp)) (show fits _ _ from ⟨⟨rfl, rfl⟩, trivial⟩) (appfitJ (by first | simpa using g48 | (simp at g48 ⊢; omega)) rfl)) ?_)
        exact ⟨((wr .i64 (v112 - 1)), r258.2, (v114 ++ [(gSEdge.mk r257.1 r258.1 v124)])), k19, h, Nat.lt_succ_self _, [], ⟨rfl, rfl, rfl, rfl, trivial⟩, ⟨⟨rfl, rfl, rfl, rfl, trivial⟩, ⟨rfl, rfl, rfl, rfl, rfl, trivial⟩, ⟨rfl, rfl, (congrArg (AV.row 3 3 0) (show (v114 ++ [(gSEdge.mk r257.1 r258.1 v124)]).length = (v114.length + ([(gSEdge.mk r257.1 r258.1 v124).enc] : List PV).length) by simp)), rfl, rfl, trivial⟩, (congrArg (Bk.row 165 3) (show (v114 ++ [(gSEdge.mk r257.1 r258.1 v124)]).map gSEdge.enc = (v114.map gSEdge.enc) ++ [(gSEdge.mk r257.1 r258.1 v124).enc] by simp)), trivial⟩, rfl⟩
    · replace h := cF h c
      exact ⟨(v113, v114), h, [], ⟨rfl, rfl, rfl, trivial⟩, ⟨⟨rfl, rfl, rfl, rfl, trivial⟩, ⟨rfl, rfl, rfl, rfl, rfl, trivial⟩, ⟨rfl, rfl, rfl, rfl, rfl, trivial⟩, rfl, trivial⟩, rfl⟩
  · rintro ⟨v78, v79⟩ h
    unfold m_spec_l12DrawSg_j8 at h
    refine .inl ?_
    refine And.intro (show fits _ _ from ⟨⟨rfl, rfl⟩, ⟨⟨rfl, rfl⟩, ⟨⟨rfl, rfl⟩, trivial⟩⟩⟩) ?_
    refine .inr ⟨Cu × List gSpot, fun x => ([(0, .ptr 0 0), (2, .ptr 1 0), (3, .ptr 2 0), (6, .row 3 1 0 (([⟨#[120]⟩, ⟨#[121]⟩, ⟨#[122]⟩] : List ByteArray).length))], [.box 213 [.p (.lst (bl x.1.code)), .p (I x.1.at_), .p (I x.1.seed)], .box 65 [.p (I 0), .tl [], .tl [], .tl []], .box 65 [.p (I (wr .i64 (1 + r133.1))), .row 4 3 0 v79.length, .row 5 2 0 x.2.length, .tl []], .row 9 1 (([⟨#[120]⟩, ⟨#[121]⟩, ⟨#[122]⟩] : List ByteArray).map S), .row 165 3 (v79.map gSEdge.enc), .row 71 2 (x.2.map gSpot.enc)]), fun x => m_spec_l12DrawSg_j10 n r133 v79 x.1 x.2 = some r, ?_, ?_⟩
    · refine .inl ?_
      obtain ⟨r210, hr210, h⟩ := bsm h
      refine callW (args' := [.ptr 0 0, .p (I 8)]) (τ0 := [.box 213 [.p (.lst (bl v78.code)), .p (I v78.at_), .p (I v78.seed)]]) [0] [] (c_spec_l01Cur_pick n v78 8 _ hr210) (fun K hk => hk) rfl ⟨rfl, rfl, trivial⟩ ⟨⟨rfl, rfl, rfl, rfl, trivial⟩, trivial⟩ rfl ?_
      rintro rs τ' hl' ⟨rfl, rfl⟩
      refine ⟨Int × Cu × List gSpot, fun x => ([(0, .ptr 0 0), (2, .ptr 1 0), (3, .ptr 2 0), (6, .row 3 1 0 (([⟨#[120]⟩, ⟨#[121]⟩, ⟨#[122]⟩] : List ByteArray).length)), (7, .p (I x.1))], [.box 213 [.p (.lst (bl x.2.1.code)), .p (I x.2.1.at_), .p (I x.2.1.seed)], .box 65 [.p (I 0), .tl [], .tl [], .tl []], .box 65 [.p (I (wr .i64 (1 + r133.1))), .row 4 3 0 v79.length, .row 5 2 0 x.2.2.length, .tl []], .row 9 1 (([⟨#[120]⟩, ⟨#[121]⟩, ⟨#[122]⟩] : List ByteArray).map S), .row 165 3 (v79.map gSEdge.enc), .row 71 2 (x.2.2.map gSpot.enc)]), fun x k => m_spec_l12DrawSg_l14 n r133 v79 k x.1 x.2.1 x.2.2 = some r, ⟨(r210.1, r210.2, []), n, h, [(999999, 0), (999999, 1), (999999, 2), (999999, 4), (999999, 3), (71, 2)], ⟨rfl, rfl, rfl, (congrArg (AV.row 3 1 0) (show ([⟨#[120]⟩, ⟨#[121]⟩, ⟨#[122]⟩] : List ByteArray).length = 3 by simp)), rfl, trivial⟩, ⟨⟨rfl, rfl, rfl, rfl, trivial⟩, ⟨rfl, rfl, rfl, rfl, rfl, trivial⟩, ⟨rfl, rfl, rfl, ⟨rfl, rfl⟩, rfl, trivial⟩, (congrArg (Bk.row 9 1) (show ([⟨#[120]⟩, ⟨#[121]⟩, ⟨#[122]⟩] : List ByteArray).map S = [S ⟨#[120]⟩, S ⟨#[121]⟩, S ⟨#[122]⟩] by simp)), rfl, rfl, trivial⟩, rfl⟩, ?_⟩
      rintro ⟨v102, v103, v104⟩ (_ | k14) h
      · exact ns h
      unfold m_spec_l12DrawSg_l14 at h
      refine .inl ?_
      refine .inl ?_
      refine And.intro (fun c => ?_) (fun c => ?_)
      · replace h := cT h c
        refine .inl ?_
        refine ⟨[0, 1, 2, 3, 4, 6, 7, 5, 8, 9, 10, 11, 12, 13, 14, 1015], [0, 5], by decide +kernel, ?_⟩
        obtain ⟨r221, hr221, h⟩ := bsm h
        refine callW (args' := [.ptr 0 0, .p (I (wr .i64 (1 + r133.1)))]) (τ0 := [.box 213 [.p (.lst (bl v103.code)), .p (I v103.at_), .p (I v103.seed)]]) [0] [] (c_spec_l01Cur_pick n v103 (wr .i64 (1 + r133.1)) _ hr221) (fun K hk => hk) rfl ⟨rfl, rfl, trivial⟩ ⟨⟨rfl, rfl, rfl, rfl, trivial⟩, trivial⟩ rfl ?_
        rintro rs τ' hl' ⟨rfl, rfl⟩
        obtain ⟨r222, hr222, h⟩ := bsm h
        refine callW (args' := [.ptr 0 0, .p (I 3)]) (τ0 := [.box 213 [.p (.lst (bl r221.2.code)), .p (I r221.2.at_), .p (I r221.2.seed)]]) [0] [] (c_spec_l01Cur_pick n r221.2 3 _ hr222) (fun K hk => hk) rfl ⟨rfl, rfl, trivial⟩ ⟨⟨rfl, rfl, rfl, rfl, trivial⟩, trivial⟩ rfl ?_
        rintro rs τ' hl' ⟨rfl, rfl⟩
        obtain ⟨x92, hx92, h⟩ := bsm h
        refine And.intro (by have q := ixr hx92; simp at q ⊢; omega) ?_
        refine Exists.intro _ (And.intro (gz (gm (ixg hx92))) ?_)
        refine And.intro (show fits _ _ from ⟨⟨rfl, rfl⟩, trivial⟩) ?_
        obtain ⟨g36, h⟩ := gpT h
        refine Exists.intro ([(gSpot.mk r221.1 x92).enc]) (And.intro (rowN rfl rfl) ?_)
        refine Exists.intro (v104.map gSpot.enc) (And.intro (rowX (rowN rfl (show v104.length = (v104.map gSpot.enc).length by simp)) (show fits _ _ from ⟨⟨rfl, rfl⟩, trivial⟩) (appfitJ (by first | simpa using g36 | (simp at g36 ⊢; omega)) rfl)) ?_)
        exact ⟨((wr .i64 (v102 - 1)), r222.2, (v104 ++ [(gSpot.mk r221.1 x92)])), k14, h, Nat.lt_succ_self _, [], ⟨rfl, rfl, rfl, rfl, rfl, trivial⟩, ⟨⟨rfl, rfl, rfl, rfl, trivial⟩, ⟨rfl, rfl, rfl, rfl, rfl, trivial⟩, ⟨rfl, rfl, rfl, (congrArg (AV.row 5 2 0) (show (v104 ++ [(gSpot.mk r221.1 x92)]).length = (v104.length + ([(gSpot.mk r221.1 x92).enc] : List PV).length) by simp)), rfl, trivial⟩, rfl, rfl, (congrArg (Bk.row 71 2) (show (v104 ++ [(gSpot.mk r221.1 x92)]).map gSpot.enc = (v104.map gSpot.enc) ++ [(gSpot.mk r221.1 x92).enc] by simp)), trivial⟩, rfl⟩
      · replace h := cF h c
        exact ⟨(v103, v104), h, [], ⟨rfl, rfl, rfl, rfl, trivial⟩, ⟨⟨rfl, rfl, rfl, rfl, trivial⟩, ⟨rfl, rfl, rfl, rfl, rfl, trivial⟩, ⟨rfl, rfl, rfl, rfl, rfl, trivial⟩, rfl, rfl, rfl, trivial⟩, rfl⟩
    · rintro ⟨v86, v87⟩ h
      unfold m_spec_l12DrawSg_j10 at h
      refine .inr ⟨Cu × List gSpot, fun x => ([(2, .ptr 1 0), (3, .ptr 2 0)], [.box 213 [.p (.lst (bl x.1.code)), .p (I x.1.at_), .p (I x.1.seed)], .box 65 [.p (I 0), .tl [], .tl [], .tl []], .box 65 [.p (I (wr .i64 (1 + r133.1))), .row 3 3 0 v79.length, .row 4 2 0 v87.length, .row 5 2 0 x.2.length], .row 165 3 (v79.map gSEdge.enc), .row 71 2 (v87.map gSpot.enc), .row 71 2 (x.2.map gSpot.enc)]), fun x => m_spec_l12DrawSg_j12 r133 v79 v87 x.1 x.2 = some r, ?_, ?_⟩
      · refine .inl ?_
        obtain ⟨r197, hr197, h⟩ := bsm h
        refine callW (args' := [.ptr 0 0, .p (I 8)]) (τ0 := [.box 213 [.p (.lst (bl v86.code)), .p (I v86.at_), .p (I v86.seed)]]) [0] [] (c_spec_l01Cur_pick n v86 8 _ hr197) (fun K hk => hk) rfl ⟨rfl, rfl, trivial⟩ ⟨⟨rfl, rfl, rfl, rfl, trivial⟩, trivial⟩ rfl ?_
        rintro rs τ' hl' ⟨rfl, rfl⟩
        refine ⟨Int × Cu × List gSpot, fun x => ([(0, .ptr 0 0), (2, .ptr 1 0), (3, .ptr 2 0), (6, .row 3 1 0 (([⟨#[120]⟩, ⟨#[121]⟩, ⟨#[122]⟩] : List ByteArray).length)), (8, .p (I x.1))], [.box 213 [.p (.lst (bl x.2.1.code)), .p (I x.2.1.at_), .p (I x.2.1.seed)], .box 65 [.p (I 0), .tl [], .tl [], .tl []], .box 65 [.p (I (wr .i64 (1 + r133.1))), .row 4 3 0 v79.length, .row 5 2 0 v87.length, .row 6 2 0 x.2.2.length], .row 9 1 (([⟨#[120]⟩, ⟨#[121]⟩, ⟨#[122]⟩] : List ByteArray).map S), .row 165 3 (v79.map gSEdge.enc), .row 71 2 (v87.map gSpot.enc), .row 71 2 (x.2.2.map gSpot.enc)]), fun x k => m_spec_l12DrawSg_l13 n r133 v79 v87 k x.1 x.2.1 x.2.2 = some r, ⟨(r197.1, r197.2, []), n, h, [(71, 2)], ⟨rfl, rfl, rfl, rfl, rfl, trivial⟩, ⟨⟨rfl, rfl, rfl, rfl, trivial⟩, ⟨rfl, rfl, rfl, rfl, rfl, trivial⟩, ⟨rfl, rfl, rfl, rfl, ⟨rfl, rfl⟩, trivial⟩, rfl, rfl, rfl, rfl, trivial⟩, rfl⟩, ?_⟩
        rintro ⟨v96, v97, v98⟩ (_ | k13) h
        · exact ns h
        unfold m_spec_l12DrawSg_l13 at h
        refine .inl ?_
        refine .inl ?_
        refine And.intro (fun c => ?_) (fun c => ?_)
        · replace h := cT h c
          refine .inl ?_
          refine ⟨[0, 1, 2, 3, 4, 6, 7, 5, 8, 9, 10, 11, 12, 13, 14, 1015], [0, 6], by decide +kernel, ?_⟩
          obtain ⟨r208, hr208, h⟩ := bsm h
          refine callW (args' := [.ptr 0 0, .p (I (wr .i64 (1 + r133.1)))]) (τ0 := [.box 213 [.p (.lst (bl v97.code)), .p (I v97.at_), .p (I v97.seed)]]) [0] [] (c_spec_l01Cur_pick n v97 (wr .i64 (1 + r133.1)) _ hr208) (fun K hk => hk) rfl ⟨rfl, rfl, trivial⟩ ⟨⟨rfl, rfl, rfl, rfl, trivial⟩, trivial⟩ rfl ?_
          rintro rs τ' hl' ⟨rfl, rfl⟩
          obtain ⟨r209, hr209, h⟩ := bsm h
          refine callW (args' := [.ptr 0 0, .p (I 3)]) (τ0 := [.box 213 [.p (.lst (bl r208.2.code)), .p (I r208.2.at_), .p (I r208.2.seed)]]) [0] [] (c_spec_l01Cur_pick n r208.2 3 _ hr209) (fun K hk => hk) rfl ⟨rfl, rfl, trivial⟩ ⟨⟨rfl, rfl, rfl, rfl, trivial⟩, trivial⟩ rfl ?_
          rintro rs τ' hl' ⟨rfl, rfl⟩
          obtain ⟨x86, hx86, h⟩ := bsm h
          refine And.intro (by have q := ixr hx86; simp at q ⊢; omega) ?_
          refine Exists.intro _ (And.intro (gz (gm (ixg hx86))) ?_)
          refine And.intro (show fits _ _ from ⟨⟨rfl, rfl⟩, trivial⟩) ?_
          obtain ⟨g30, h⟩ := gpT h
          refine Exists.intro ([(gSpot.mk r208.1 x86).enc]) (And.intro (rowN rfl rfl) ?_)
          refine Exists.intro (v98.map gSpot.enc) (And.intro (rowX (rowN rfl (show v98.length = (v98.map gSpot.enc).length by simp)) (show fits _ _ from ⟨⟨rfl, rfl⟩, trivial⟩) (appfitJ (by first | simpa using g30 | (simp at g30 ⊢; omega)) rfl)) ?_)
          exact ⟨((wr .i64 (v96 - 1)), r209.2, (v98 ++ [(gSpot.mk r208.1 x86)])), k13, h, Nat.lt_succ_self _, [], ⟨rfl, rfl, rfl, rfl, rfl, trivial⟩, ⟨⟨rfl, rfl, rfl, rfl, trivial⟩, ⟨rfl, rfl, rfl, rfl, rfl, trivial⟩, ⟨rfl, rfl, rfl, rfl, (congrArg (AV.row 6 2 0) (show (v98 ++ [(gSpot.mk r208.1 x86)]).length = (v98.length + ([(gSpot.mk r208.1 x86).enc] : List PV).length) by simp)), trivial⟩, rfl, rfl, rfl, (congrArg (Bk.row 71 2) (show (v98 ++ [(gSpot.mk r208.1 x86)]).map gSpot.enc = (v98.map gSpot.enc) ++ [(gSpot.mk r208.1 x86).enc] by simp)), trivial⟩, rfl⟩
        · replace h := cF h c
          exact ⟨(v97, v98), h, [(999999, 0), (999999, 1), (999999, 2), (999999, 4), (999999, 5), (999999, 6)], ⟨rfl, rfl, trivial⟩, ⟨⟨rfl, rfl, rfl, rfl, trivial⟩, ⟨rfl, rfl, rfl, rfl, rfl, trivial⟩, ⟨rfl, rfl, rfl, rfl, rfl, trivial⟩, rfl, rfl, rfl, trivial⟩, rfl⟩
      · rintro ⟨v94, v95⟩ h
        unfold m_spec_l12DrawSg_j12 at h
        refine .inl ?_
        refine .inr ?_
        replace h := Option.some.inj h
        subst h
        exact ⟨[.agg [.p (I (gSg.mk (wr .i64 (1 + r133.1)) v79 v87 v95).scopes_), .row 1 3 0 (gSg.mk (wr .i64 (1 + r133.1)) v79 v87 v95).edges_.length, .row 2 2 0 (gSg.mk (wr .i64 (1 + r133.1)) v79 v87 v95).decls_.length, .row 3 2 0 (gSg.mk (wr .i64 (1 + r133.1)) v79 v87 v95).refs_.length]], [.box 213 [.p (.lst (bl v94.code)), .p (I v94.at_), .p (I v94.seed)], .row 165 3 ((gSg.mk (wr .i64 (1 + r133.1)) v79 v87 v95).edges_.map gSEdge.enc), .row 71 2 ((gSg.mk (wr .i64 (1 + r133.1)) v79 v87 v95).decls_.map gSpot.enc), .row 71 2 ((gSg.mk (wr .i64 (1 + r133.1)) v79 v87 v95).refs_.map gSpot.enc)], ⟨[(999999, 0), (999999, 3), (999999, 4), (999999, 5)], ⟨(congrArg AV.agg (lcons rfl (lcons (congrArg (AV.row 1 3 0) (show (gSg.mk (wr .i64 (1 + r133.1)) v79 v87 v95).edges_.length = v79.length by simp)) (lcons (congrArg (AV.row 2 2 0) (show (gSg.mk (wr .i64 (1 + r133.1)) v79 v87 v95).decls_.length = v87.length by simp)) (lcons (congrArg (AV.row 3 2 0) (show (gSg.mk (wr .i64 (1 + r133.1)) v79 v87 v95).refs_.length = v95.length by simp)) rfl))))), trivial⟩, ⟨⟨rfl, rfl, rfl, rfl, trivial⟩, rfl, rfl, rfl, trivial⟩, rfl⟩, rfl, rfl, rfl⟩
def m_spec_l12DrawAnySg_j2 (v130 : Cu) (v131 : Int) (v132 : List gSEdge) (v133 : List gSpot) (v134 : List gSpot) : Option (gSg × Cu) :=
  some ((gSg.mk v131 v132 v133 v134), v130)
def m_spec_l12DrawAnySg_l3 (n : Nat) (r260 : gSg × Cu) : Nat → Cu → List gSpot → Option (gSg × Cu)
  | 0, _, _ => none
  | k3 + 1, v135, v136 =>
    (m_spec_l01Cur_pick n v135 2).bind fun r308 =>
    bif (decide (((v136.length : Nat) : Int) < (wr .i64 (120 + r308.1)))) then (
      gp (v136.length + ([(gSpot.mk 0 ⟨#[113]⟩)] : List gSpot).length ≤ 68719476736) <|
      (m_spec_l12DrawAnySg_l3 n r260 k3) r308.2 (v136 ++ ([(gSpot.mk 0 ⟨#[113]⟩)])))
    else (
      m_spec_l12DrawAnySg_j2 r308.2 r260.1.scopes_ r260.1.edges_ v136 r260.1.refs_)
def m_spec_l12DrawAnySg (n : Nat) (a26 : Cu) : Option (gSg × Cu) :=
  (m_spec_l12DrawSg n a26).bind fun r260 =>
  (m_spec_l01Cur_pick n r260.2 20).bind fun r285 =>
  bif (r285.1 == 0) then (
    (m_spec_l01Cur_pick n r285.2 3).bind fun r286 =>
    (ix [0, 60, 61] r286.1).bind fun x100 =>
    m_spec_l12DrawAnySg_j2 r286.2 x100 r260.1.edges_ r260.1.decls_ r260.1.refs_)
  else (
    bif (r285.1 == 1) then (
      (m_spec_l01Cur_pick n r285.2 9).bind fun r290 =>
      (m_spec_l01Cur_pick n r290.2 9).bind fun r291 =>
      (m_spec_l01Cur_pick n r291.2 4).bind fun r292 =>
      gp (r260.1.edges_.length + ([(gSEdge.mk (wr .i64 (r290.1 - 1)) (wr .i64 (r291.1 - 1)) r292.1)] : List gSEdge).length ≤ 68719476736) <|
      m_spec_l12DrawAnySg_j2 r292.2 r260.1.scopes_ (r260.1.edges_ ++ [(gSEdge.mk (wr .i64 (r290.1 - 1)) (wr .i64 (r291.1 - 1)) r292.1)]) r260.1.decls_ r260.1.refs_)
    else (
      bif (r285.1 == 2) then (
        (m_spec_l01Cur_pick n r285.2 9).bind fun r298 =>
        (m_spec_l01Cur_pick n r298.2 2).bind fun r299 =>
        (ix ([⟨#[120]⟩, ⟨#[]⟩]) r299.1).bind fun x104 =>
        gp (r260.1.refs_.length + ([(gSpot.mk (wr .i64 (r298.1 - 1)) x104)] : List gSpot).length ≤ 68719476736) <|
        m_spec_l12DrawAnySg_j2 r299.2 r260.1.scopes_ r260.1.edges_ r260.1.decls_ (r260.1.refs_ ++ [(gSpot.mk (wr .i64 (r298.1 - 1)) x104)]))
      else (
        bif (r285.1 == 3) then (
          m_spec_l12DrawAnySg_l3 n r260 n r285.2 r260.1.decls_)
        else (
          m_spec_l12DrawAnySg_j2 r285.2 r260.1.scopes_ r260.1.edges_ r260.1.decls_ r260.1.refs_))))
theorem c_spec_l12DrawAnySg (n : Nat) (a26 : Cu) (r : gSg × Cu) (h : m_spec_l12DrawAnySg n a26 = some r) : Sy.Fn Try.prog 97 [.ptr 0 0] [.box 213 [.p (.lst (bl a26.code)), .p (I a26.at_), .p (I a26.seed)]] (fun rs τ' => rs = [.p (r.1.enc)] ∧ τ' = [.box 213 [.p (.lst (bl r.2.code)), .p (I r.2.at_), .p (I r.2.seed)]]) := by
  unfold m_spec_l12DrawAnySg at h
  refine fn_introJ Try.func97 rfl rfl rfl ?_
  refine .inl ?_
  refine .inl ?_
  obtain ⟨r260, hr260, h⟩ := bsm h
  refine callW (args' := [.ptr 0 0]) (τ0 := [.box 213 [.p (.lst (bl a26.code)), .p (I a26.at_), .p (I a26.seed)]]) [0] [] (c_spec_l12DrawSg n a26 _ hr260) (fun K hk => hk) rfl ⟨rfl, trivial⟩ ⟨⟨rfl, rfl, rfl, rfl, trivial⟩, trivial⟩ rfl ?_
  rintro rs τ' hl' ⟨rfl, rfl⟩
  refine .inr ⟨Cu × Int × List gSEdge × List gSpot × List gSpot, fun x => ([(2, .ptr 1 0), (3, .ptr 2 0)], [.box 213 [.p (.lst (bl x.1.code)), .p (I x.1.at_), .p (I x.1.seed)], .box 65 [.p (I 0), .tl [], .tl [], .tl []], .box 65 [.p (I x.2.1), .row 3 3 0 x.2.2.1.length, .row 4 2 0 x.2.2.2.1.length, .row 5 2 0 x.2.2.2.2.length], .row 165 3 (x.2.2.1.map gSEdge.enc), .row 71 2 (x.2.2.2.1.map gSpot.enc), .row 71 2 (x.2.2.2.2.map gSpot.enc)]), fun x => m_spec_l12DrawAnySg_j2 x.1 x.2.1 x.2.2.1 x.2.2.2.1 x.2.2.2.2 = some r, ?_, ?_⟩
  · refine .inl ?_
    obtain ⟨r285, hr285, h⟩ := bsm h
    refine callW (args' := [.ptr 0 0, .p (I 20)]) (τ0 := [.box 213 [.p (.lst (bl r260.2.code)), .p (I r260.2.at_), .p (I r260.2.seed)]]) [0] [] (c_spec_l01Cur_pick n r260.2 20 _ hr285) (fun K hk => hk) rfl ⟨rfl, rfl, trivial⟩ ⟨⟨rfl, rfl, rfl, rfl, trivial⟩, trivial⟩ rfl ?_
    rintro rs τ' hl' ⟨rfl, rfl⟩
    refine .inl ?_
    refine And.intro (fun c => ?_) (fun c => ?_)
    · replace h := cT h c
      refine And.intro (show fits _ _ from ⟨⟨rfl, rfl⟩, ⟨⟨rfl, rfl⟩, ⟨⟨rfl, rfl⟩, trivial⟩⟩⟩) ?_
      obtain ⟨r286, hr286, h⟩ := bsm h
      refine callW (args' := [.ptr 0 0, .p (I 3)]) (τ0 := [.box 213 [.p (.lst (bl r285.2.code)), .p (I r285.2.at_), .p (I r285.2.seed)]]) [0] [] (c_spec_l01Cur_pick n r285.2 3 _ hr286) (fun K hk => hk) rfl ⟨rfl, rfl, trivial⟩ ⟨⟨rfl, rfl, rfl, rfl, trivial⟩, trivial⟩ rfl ?_
      rintro rs τ' hl' ⟨rfl, rfl⟩
      obtain ⟨x100, hx100, h⟩ := bsm h
      refine And.intro (by have q := ixr hx100; simp at q ⊢; omega) ?_
      refine Exists.intro _ (And.intro (gz (gc (show [I 0, I 60, I 61] = ([0, 60, 61] : List Int).map I by simp) (gm (ixg hx100)))) ?_)
      exact ⟨(r286.2, x100, r260.1.edges_, r260.1.decls_, r260.1.refs_), h, [(999999, 0), (999999, 1), (999999, 5), (999999, 2), (999999, 3), (999999, 4)], ⟨rfl, rfl, trivial⟩, ⟨⟨rfl, rfl, rfl, rfl, trivial⟩, ⟨rfl, rfl, rfl, rfl, rfl, trivial⟩, ⟨rfl, rfl, rfl, rfl, rfl, trivial⟩, rfl, rfl, rfl, trivial⟩, rfl⟩
    · replace h := cF h c
      refine .inl ?_
      refine And.intro (fun c => ?_) (fun c => ?_)
      · replace h := cT h c
        refine ⟨[0, 1, 2, 5, 8, 3, 4, 6, 7, 9, 10, 11, 12, 13, 1014], [0, 2], by decide +kernel, ?_⟩
        obtain ⟨r290, hr290, h⟩ := bsm h
        refine callW (args' := [.ptr 0 0, .p (I 9)]) (τ0 := [.box 213 [.p (.lst (bl r285.2.code)), .p (I r285.2.at_), .p (I r285.2.seed)]]) [0] [] (c_spec_l01Cur_pick n r285.2 9 _ hr290) (fun K hk => hk) rfl ⟨rfl, rfl, trivial⟩ ⟨⟨rfl, rfl, rfl, rfl, trivial⟩, trivial⟩ rfl ?_
        rintro rs τ' hl' ⟨rfl, rfl⟩
        obtain ⟨r291, hr291, h⟩ := bsm h
        refine callW (args' := [.ptr 0 0, .p (I 9)]) (τ0 := [.box 213 [.p (.lst (bl r290.2.code)), .p (I r290.2.at_), .p (I r290.2.seed)]]) [0] [] (c_spec_l01Cur_pick n r290.2 9 _ hr291) (fun K hk => hk) rfl ⟨rfl, rfl, trivial⟩ ⟨⟨rfl, rfl, rfl, rfl, trivial⟩, trivial⟩ rfl ?_
        rintro rs τ' hl' ⟨rfl, rfl⟩
        obtain ⟨r292, hr292, h⟩ := bsm h
        refine callW (args' := [.ptr 0 0, .p (I 4)]) (τ0 := [.box 213 [.p (.lst (bl r291.2.code)), .p (I r291.2.at_), .p (I r291.2.seed)]]) [0] [] (c_spec_l01Cur_pick n r291.2 4 _ hr292) (fun K hk => hk) rfl ⟨rfl, rfl, trivial⟩ ⟨⟨rfl, rfl, rfl, rfl, trivial⟩, trivial⟩ rfl ?_
        rintro rs τ' hl' ⟨rfl, rfl⟩
        refine And.intro (show fits _ _ from ⟨⟨rfl, rfl⟩, trivial⟩) ?_
        obtain ⟨g13, h⟩ := gpT h
        refine Exists.intro ([(gSEdge.mk (wr .i64 (r290.1 - 1)) (wr .i64 (r291.1 - 1)) r292.1).enc]) (And.intro (rowN rfl rfl) ?_)
        refine Exists.intro (r260.1.edges_.map gSEdge.enc) (And.intro (rowX (rowN rfl (show r260.1.edges_.length = (r260.1.edges_.map gSEdge.enc).length by simp)) (show fits _ _ from ⟨⟨rfl, rfl⟩, trivial⟩) (appfitJ (by first | simpa using g13 | (simp at g13 ⊢; omega)) rfl)) ?_)
        exact ⟨(r292.2, r260.1.scopes_, (r260.1.edges_ ++ [(gSEdge.mk (wr .i64 (r290.1 - 1)) (wr .i64 (r291.1 - 1)) r292.1)]), r260.1.decls_, r260.1.refs_), h, [(999999, 0), (999999, 1), (999999, 5), (999999, 2), (999999, 3), (999999, 4)], ⟨rfl, rfl, trivial⟩, ⟨⟨rfl, rfl, rfl, rfl, trivial⟩, ⟨rfl, rfl, rfl, rfl, rfl, trivial⟩, ⟨rfl, rfl, (congrArg (AV.row 3 3 0) (show (r260.1.edges_ ++ [(gSEdge.mk (wr .i64 (r290.1 - 1)) (wr .i64 (r291.1 - 1)) r292.1)]).length = (r260.1.edges_.length + ([(gSEdge.mk (wr .i64 (r290.1 - 1)) (wr .i64 (r291.1 - 1)) r292.1).enc] : List PV).length) by simp)), rfl, rfl, trivial⟩, (congrArg (Bk.row 165 3) (show (r260.1.edges_ ++ [(gSEdge.mk (wr .i64 (r290.1 - 1)) (wr .i64 (r291.1 - 1)) r292.1)]).map gSEdge.enc = (r260.1.edges_.map gSEdge.enc) ++ [(gSEdge.mk (wr .i64 (r290.1 - 1)) (wr .i64 (r291.1 - 1)) r292.1).enc] by simp)), rfl, rfl, trivial⟩, rfl⟩
      · replace h := cF h c
        refine .inl ?_
        refine And.intro (fun c => ?_) (fun c => ?_)
        · replace h := cT h c
          refine ⟨[0, 1, 2, 6, 5000, 3, 4, 5000, 5, 7, 8, 9, 10, 11, 12, 13, 1014, 7, 5, 8, 9, 10, 11, 12, 13, 1014, 6000, 6000, 6000, 6000, 6000, 6000, 6000, 6000, 6000, 6000, 5, 3, 4, 7, 8, 9, 10, 11, 12, 13, 1014], [0, 4], by decide +kernel, ?_⟩
          obtain ⟨r298, hr298, h⟩ := bsm h
          obtain ⟨r299, hr299, h⟩ := bsm h
          obtain ⟨x104, hx104, h⟩ := bsm h
          obtain ⟨g17, h⟩ := gpT h
          refine And.intro ?_ ?_
          · skip
            refine callW (args' := [.ptr 0 0, .p (I 9)]) (τ0 := [.box 213 [.p (.lst (bl r285.2.code)), .p (I r285.2.at_), .p (I r285.2.seed)]]) [0] [] (c_spec_l01Cur_pick n r285.2 9 _ hr298) (fun K hk => hk) rfl ⟨rfl, rfl, trivial⟩ ⟨⟨rfl, rfl, rfl, rfl, trivial⟩, trivial⟩ rfl ?_
            rintro rs τ' hl' ⟨rfl, rfl⟩
            refine And.intro ?_ ?_
            · refine And.intro (show fits _ _ from ⟨⟨rfl, rfl⟩, ⟨⟨rfl, rfl⟩, trivial⟩⟩) ?_
              refine callW (args' := [.ptr 0 0, .p (I 2)]) (τ0 := [.box 213 [.p (.lst (bl r298.2.code)), .p (I r298.2.at_), .p (I r298.2.seed)]]) [0] [] (c_spec_l01Cur_pick n r298.2 2 _ hr299) (fun K hk => hk) rfl ⟨rfl, rfl, trivial⟩ ⟨⟨rfl, rfl, rfl, rfl, trivial⟩, trivial⟩ rfl ?_
              rintro rs τ' hl' ⟨rfl, rfl⟩
              refine And.intro (by have q := ixr hx104; simp at q ⊢; omega) ?_
              refine Exists.intro _ (And.intro (gz (gc (show [S ⟨#[120]⟩, S ⟨#[]⟩] = ([⟨#[120]⟩, ⟨#[]⟩] : List ByteArray).map S by simp) (gm (ixg hx104)))) ?_)
              refine And.intro (show fits _ _ from ⟨⟨rfl, rfl⟩, trivial⟩) ?_
              refine Exists.intro ([(gSpot.mk (wr .i64 (r298.1 - 1)) x104).enc]) (And.intro (rowN rfl rfl) ?_)
              refine Exists.intro (r260.1.refs_.map gSpot.enc) (And.intro (rowX (rowN rfl (show r260.1.refs_.length = (r260.1.refs_.map gSpot.enc).length by simp)) (show fits _ _ from ⟨⟨rfl, rfl⟩, trivial⟩) (appfitJ (by first | simpa using g17 | (simp at g17 ⊢; omega)) rfl)) ?_)
              exact ⟨(r299.2, r260.1.scopes_, r260.1.edges_, r260.1.decls_, (r260.1.refs_ ++ [(gSpot.mk (wr .i64 (r298.1 - 1)) x104)])), h, [(999999, 0), (999999, 1), (999999, 5), (999999, 2), (999999, 3), (999999, 4)], ⟨rfl, rfl, trivial⟩, ⟨⟨rfl, rfl, rfl, rfl, trivial⟩, ⟨rfl, rfl, rfl, rfl, rfl, trivial⟩, ⟨rfl, rfl, rfl, rfl, (congrArg (AV.row 5 2 0) (show (r260.1.refs_ ++ [(gSpot.mk (wr .i64 (r298.1 - 1)) x104)]).length = (r260.1.refs_.length + ([(gSpot.mk (wr .i64 (r298.1 - 1)) x104).enc] : List PV).length) by simp)), trivial⟩, rfl, rfl, (congrArg (Bk.row 71 2) (show (r260.1.refs_ ++ [(gSpot.mk (wr .i64 (r298.1 - 1)) x104)]).map gSpot.enc = (r260.1.refs_.map gSpot.enc) ++ [(gSpot.mk (wr .i64 (r298.1 - 1)) x104).enc] by simp)), trivial⟩, rfl⟩
            · skip
              refine callW (args' := [.ptr 0 0, .p (I 2)]) (τ0 := [.box 213 [.p (.lst (bl r298.2.code)), .p (I r298.2.at_), .p (I r298.2.seed)]]) [0] [] (c_spec_l01Cur_pick n r298.2 2 _ hr299) (fun K hk => hk) rfl ⟨rfl, rfl, trivial⟩ ⟨⟨rfl, rfl, rfl, rfl, trivial⟩, trivial⟩ rfl ?_
              rintro rs τ' hl' ⟨rfl, rfl⟩
              refine And.intro (show fits _ _ from ⟨⟨rfl, rfl⟩, ⟨⟨rfl, rfl⟩, trivial⟩⟩) ?_
              refine And.intro (by have q := ixr hx104; simp at q ⊢; omega) ?_
              refine Exists.intro _ (And.intro (gz (gc (show [S ⟨#[120]⟩, S ⟨#[]⟩] = ([⟨#[120]⟩, ⟨#[]⟩] : List ByteArray).map S by simp) (gm (ixg hx104)))) ?_)
              refine And.intro (show fits _ _ from ⟨⟨rfl, rfl⟩, trivial⟩) ?_
              refine Exists.intro ([(gSpot.mk (wr .i64 (r298.1 - 1)) x104).enc]) (And.intro (rowN rfl rfl) ?_)
              refine Exists.intro (r260.1.refs_.map gSpot.enc) (And.intro (rowX (rowN rfl (show r260.1.refs_.length = (r260.1.refs_.map gSpot.enc).length by simp)) (show fits _ _ from ⟨⟨rfl, rfl⟩, trivial⟩) (appfitJ (by first | simpa using g17 | (simp at g17 ⊢; omega)) rfl)) ?_)
              exact ⟨(r299.2, r260.1.scopes_, r260.1.edges_, r260.1.decls_, (r260.1.refs_ ++ [(gSpot.mk (wr .i64 (r298.1 - 1)) x104)])), h, [(999999, 0), (999999, 1), (999999, 5), (999999, 2), (999999, 3), (999999, 4)], ⟨rfl, rfl, trivial⟩, ⟨⟨rfl, rfl, rfl, rfl, trivial⟩, ⟨rfl, rfl, rfl, rfl, rfl, trivial⟩, ⟨rfl, rfl, rfl, rfl, (congrArg (AV.row 5 2 0) (show (r260.1.refs_ ++ [(gSpot.mk (wr .i64 (r298.1 - 1)) x104)]).length = (r260.1.refs_.length + ([(gSpot.mk (wr .i64 (r298.1 - 1)) x104).enc] : List PV).length) by simp)), trivial⟩, rfl, rfl, (congrArg (Bk.row 71 2) (show (r260.1.refs_ ++ [(gSpot.mk (wr .i64 (r298.1 - 1)) x104)]).map gSpot.enc = (r260.1.refs_.map gSpot.enc) ++ [(gSpot.mk (wr .i64 (r298.1 - 1)) x104).enc] by simp)), trivial⟩, rfl⟩
          · refine And.intro (show fits _ _ from ⟨⟨rfl, rfl⟩, ⟨⟨rfl, rfl⟩, trivial⟩⟩) ?_
            refine callW (args' := [.ptr 0 0, .p (I 9)]) (τ0 := [.box 213 [.p (.lst (bl r285.2.code)), .p (I r285.2.at_), .p (I r285.2.seed)]]) [0] [] (c_spec_l01Cur_pick n r285.2 9 _ hr298) (fun K hk => hk) rfl ⟨rfl, rfl, trivial⟩ ⟨⟨rfl, rfl, rfl, rfl, trivial⟩, trivial⟩ rfl ?_
            rintro rs τ' hl' ⟨rfl, rfl⟩
            refine callW (args' := [.ptr 0 0, .p (I 2)]) (τ0 := [.box 213 [.p (.lst (bl r298.2.code)), .p (I r298.2.at_), .p (I r298.2.seed)]]) [0] [] (c_spec_l01Cur_pick n r298.2 2 _ hr299) (fun K hk => hk) rfl ⟨rfl, rfl, trivial⟩ ⟨⟨rfl, rfl, rfl, rfl, trivial⟩, trivial⟩ rfl ?_
            rintro rs τ' hl' ⟨rfl, rfl⟩
            refine And.intro (by have q := ixr hx104; simp at q ⊢; omega) ?_
            refine Exists.intro _ (And.intro (gz (gc (show [S ⟨#[120]⟩, S ⟨#[]⟩] = ([⟨#[120]⟩, ⟨#[]⟩] : List ByteArray).map S by simp) (gm (ixg hx104)))) ?_)
            refine And.intro (show fits _ _ from ⟨⟨rfl, rfl⟩, trivial⟩) ?_
            refine Exists.intro ([(gSpot.mk (wr .i64 (r298.1 - 1)) x104).enc]) (And.intro (rowN rfl rfl) ?_)
            refine Exists.intro (r260.1.refs_.map gSpot.enc) (And.intro (rowX (rowN rfl (show r260.1.refs_.length = (r260.1.refs_.map gSpot.enc).length by simp)) (show fits _ _ from ⟨⟨rfl, rfl⟩, trivial⟩) (appfitJ (by first | simpa using g17 | (simp at g17 ⊢; omega)) rfl)) ?_)
            exact ⟨(r299.2, r260.1.scopes_, r260.1.edges_, r260.1.decls_, (r260.1.refs_ ++ [(gSpot.mk (wr .i64 (r298.1 - 1)) x104)])), h, [(999999, 0), (999999, 1), (999999, 5), (999999, 2), (999999, 3), (999999, 4)], ⟨rfl, rfl, trivial⟩, ⟨⟨rfl, rfl, rfl, rfl, trivial⟩, ⟨rfl, rfl, rfl, rfl, rfl, trivial⟩, ⟨rfl, rfl, rfl, rfl, (congrArg (AV.row 5 2 0) (show (r260.1.refs_ ++ [(gSpot.mk (wr .i64 (r298.1 - 1)) x104)]).length = (r260.1.refs_.length + ([(gSpot.mk (wr .i64 (r298.1 - 1)) x104).enc] : List PV).length) by simp)), trivial⟩, rfl, rfl, (congrArg (Bk.row 71 2) (show (r260.1.refs_ ++ [(gSpot.mk (wr .i64 (r298.1 - 1)) x104)]).map gSpot.enc = (r260.1.refs_.map gSpot.enc) ++ [(gSpot.mk (wr .i64 (r298.1 - 1)) x104).enc] by simp)), trivial⟩, rfl⟩
        · replace h := cF h c
          refine .inl ?_
          refine And.intro (fun c => ?_) (fun c => ?_)
          · replace h := cT h c
            refine ⟨Cu × List gSpot, fun x => ([(0, .ptr 0 0), (2, .ptr 1 0), (3, .ptr 2 0)], [.box 213 [.p (.lst (bl x.1.code)), .p (I x.1.at_), .p (I x.1.seed)], .box 65 [.p (I 0), .tl [], .tl [], .tl []], .box 65 [.p (I r260.1.scopes_), .row 3 3 0 r260.1.edges_.length, .row 4 2 0 x.2.length, .row 5 2 0 r260.1.refs_.length], .row 165 3 (r260.1.edges_.map gSEdge.enc), .row 71 2 (x.2.map gSpot.enc), .row 71 2 (r260.1.refs_.map gSpot.enc)]), fun x k => m_spec_l12DrawAnySg_l3 n r260 k x.1 x.2 = some r, ⟨(r285.2, r260.1.decls_), n, h, [(999999, 0), (999999, 1), (999999, 5), (999999, 2), (999999, 3), (999999, 4)], ⟨rfl, rfl, rfl, trivial⟩, ⟨⟨rfl, rfl, rfl, rfl, trivial⟩, ⟨rfl, rfl, rfl, rfl, rfl, trivial⟩, ⟨rfl, rfl, rfl, rfl, rfl, trivial⟩, rfl, rfl, rfl, trivial⟩, rfl⟩, ?_⟩
            rintro ⟨v135, v136⟩ (_ | k3) h
            · exact ns h
            unfold m_spec_l12DrawAnySg_l3 at h
            refine .inl ?_
            refine .inl ?_
            refine ⟨[0, 1, 2, 3, 4, 5, 6], [0], by decide +kernel, ?_⟩
            obtain ⟨r308, hr308, h⟩ := bsm h
            refine callW (args' := [.ptr 0 0, .p (I 2)]) (τ0 := [.box 213 [.p (.lst (bl v135.code)), .p (I v135.at_), .p (I v135.seed)]]) [0] [] (c_spec_l01Cur_pick n v135 2 _ hr308) (fun K hk => hk) rfl ⟨rfl, rfl, trivial⟩ ⟨⟨rfl, rfl, rfl, rfl, trivial⟩, trivial⟩ rfl ?_
            rintro rs τ' hl' ⟨rfl, rfl⟩
            refine And.intro (fun c => ?_) (fun c => ?_)
            · replace h := cT h c
              refine And.intro (show fits _ _ from ⟨⟨rfl, rfl⟩, trivial⟩) ?_
              obtain ⟨g22, h⟩ := gpT h
              refine Exists.intro ([(gSpot.mk 0 ⟨#[113]⟩).enc]) (And.intro (rowN rfl rfl) ?_)
              refine Exists.intro (v136.map gSpot.enc) (And.intro (rowX (rowN rfl (show v136.length = (v136.map gSpot.enc).length by simp)) (show fits _ _ from ⟨⟨rfl, rfl⟩, trivial⟩) (appfitJ (by first | simpa using g22 | (simp at g22 ⊢; omega)) rfl)) ?_)
              exact ⟨(r308.2, (v136 ++ ([(gSpot.mk 0 ⟨#[113]⟩)]))), k3, h, Nat.lt_succ_self _, [], ⟨rfl, rfl, rfl, trivial⟩, ⟨⟨rfl, rfl, rfl, rfl, trivial⟩, ⟨rfl, rfl, rfl, rfl, rfl, trivial⟩, ⟨rfl, rfl, rfl, (congrArg (AV.row 4 2 0) (show (v136 ++ ([(gSpot.mk 0 ⟨#[113]⟩)])).length = (v136.length + ([(gSpot.mk 0 ⟨#[113]⟩).enc] : List PV).length) by simp)), rfl, trivial⟩, rfl, (congrArg (Bk.row 71 2) (show (v136 ++ ([(gSpot.mk 0 ⟨#[113]⟩)])).map gSpot.enc = (v136.map gSpot.enc) ++ ([(gSpot.mk 0 ⟨#[113]⟩).enc]) by simp)), rfl, trivial⟩, rfl⟩
            · replace h := cF h c
              exact ⟨(r308.2, r260.1.scopes_, r260.1.edges_, v136, r260.1.refs_), h, [], ⟨rfl, rfl, trivial⟩, ⟨⟨rfl, rfl, rfl, rfl, trivial⟩, ⟨rfl, rfl, rfl, rfl, rfl, trivial⟩, ⟨rfl, rfl, rfl, rfl, rfl, trivial⟩, rfl, rfl, rfl, trivial⟩, rfl⟩
          · replace h := cF h c
            exact ⟨(r285.2, r260.1.scopes_, r260.1.edges_, r260.1.decls_, r260.1.refs_), h, [(999999, 0), (999999, 1), (999999, 5), (999999, 2), (999999, 3), (999999, 4)], ⟨rfl, rfl, trivial⟩, ⟨⟨rfl, rfl, rfl, rfl, trivial⟩, ⟨rfl, rfl, rfl, rfl, rfl, trivial⟩, ⟨rfl, rfl, rfl, rfl, rfl, trivial⟩, rfl, rfl, rfl, trivial⟩, rfl⟩
  · rintro ⟨v130, v131, v132, v133, v134⟩ h
    unfold m_spec_l12DrawAnySg_j2 at h
    refine .inl ?_
    refine .inl (Exists.intro _ (And.intro (rowN rfl (show v132.length = (v132.map gSEdge.enc).length by simp)) (Exists.intro _ (And.intro (rowN rfl (show v133.length = (v133.map gSpot.enc).length by simp)) (Exists.intro _ (And.intro (rowN rfl (show v134.length = (v134.map gSpot.enc).length by simp)) ?_))))))
    replace h := Option.some.inj h
    subst h
    exact ⟨[.p ((gSg.mk v131 v132 v133 v134).enc)], [.box 213 [.p (.lst (bl v130.code)), .p (I v130.at_), .p (I v130.seed)]], ⟨[], ⟨rfl, trivial⟩, ⟨⟨rfl, rfl, rfl, rfl, trivial⟩, trivial⟩, rfl⟩, rfl, rfl, rfl⟩
def m_spec_l01Leaf (n : Nat) (a27 : ByteArray) (a28 : ByteArray) : Option Tree :=
  some (Tree.mk a27 a28 true [])
theorem c_spec_l01Leaf (n : Nat) (a27 : ByteArray) (a28 : ByteArray) (r : Tree) (h : m_spec_l01Leaf n a27 a28 = some r) : FnP Try.prog 109 [S a27, S a28] [r.enc] := by
  unfold m_spec_l01Leaf at h
  refine fn_introJ Try.func109 rfl rfl rfl ?_
  refine .inl ?_
  refine .inl ?_
  refine .inl ?_
  replace h := Option.some.inj h
  subst h
  exact ⟨[.p ((Tree.mk a27 a28 true []).enc)], [], ⟨[], ⟨rfl, trivial⟩, trivial, rfl⟩, rfl, rfl, rfl⟩
def m_spec_l01Node (n : Nat) (a29 : ByteArray) (a30 : List Tree) : Option Tree :=
  some (Tree.mk a29 ⟨#[]⟩ false a30)
theorem c_spec_l01Node (n : Nat) (a29 : ByteArray) (a30 : List Tree) (r : Tree) (h : m_spec_l01Node n a29 a30 = some r) : FnP Try.prog 110 [S a29, .lst (encM a30)] [r.enc] := by
  unfold m_spec_l01Node at h
  refine fn_introJ Try.func110 rfl rfl rfl ?_
  refine .inl ?_
  refine .inl ?_
  replace h := Option.some.inj h
  subst h
  exact ⟨[.p ((Tree.mk a29 ⟨#[]⟩ false a30).enc)], [], ⟨[], ⟨rfl, trivial⟩, trivial, rfl⟩, rfl, rfl, rfl⟩
def m_spec_l12DrawId (n : Nat) (a31 : Cu) : Option (Tree × Cu) :=
  (m_spec_l01Cur_pick n a31 6).bind fun r309 =>
  (ix ([⟨#[120]⟩, ⟨#[121]⟩, ⟨#[122]⟩, ⟨#[102]⟩, ⟨#[121, 49]⟩, ⟨#[120, 50]⟩]) r309.1).bind fun x107 =>
  (m_spec_l01Leaf n ⟨#[73, 100]⟩ x107).bind fun r310 =>
  some (r310, r309.2)
theorem c_spec_l12DrawId (n : Nat) (a31 : Cu) (r : Tree × Cu) (h : m_spec_l12DrawId n a31 = some r) : Sy.Fn Try.prog 177 [.ptr 0 0] [.box 213 [.p (.lst (bl a31.code)), .p (I a31.at_), .p (I a31.seed)]] (fun rs τ' => rs = [.p (r.1.enc)] ∧ τ' = [.box 213 [.p (.lst (bl r.2.code)), .p (I r.2.at_), .p (I r.2.seed)]]) := by
  unfold m_spec_l12DrawId at h
  refine fn_introJ Try.func177 rfl rfl rfl ?_
  refine .inl ?_
  refine .inl ?_
  refine And.intro (show fits _ _ from ⟨⟨rfl, rfl⟩, ⟨⟨rfl, rfl⟩, ⟨⟨rfl, rfl⟩, ⟨⟨rfl, rfl⟩, ⟨⟨rfl, rfl⟩, ⟨⟨rfl, rfl⟩, trivial⟩⟩⟩⟩⟩⟩) ?_
  obtain ⟨r309, hr309, h⟩ := bsm h
  refine callW (args' := [.ptr 0 0, .p (I 6)]) (τ0 := [.box 213 [.p (.lst (bl a31.code)), .p (I a31.at_), .p (I a31.seed)]]) [0] [] (c_spec_l01Cur_pick n a31 6 _ hr309) (fun K hk => hk) rfl ⟨rfl, rfl, trivial⟩ ⟨⟨rfl, rfl, rfl, rfl, trivial⟩, trivial⟩ rfl ?_
  rintro rs τ' hl' ⟨rfl, rfl⟩
  obtain ⟨x107, hx107, h⟩ := bsm h
  refine And.intro (by have q := ixr hx107; simp at q ⊢; omega) ?_
  refine Exists.intro _ (And.intro (gz (gc (show [S ⟨#[120]⟩, S ⟨#[121]⟩, S ⟨#[122]⟩, S ⟨#[102]⟩, S ⟨#[121, 49]⟩, S ⟨#[120, 50]⟩] = ([⟨#[120]⟩, ⟨#[121]⟩, ⟨#[122]⟩, ⟨#[102]⟩, ⟨#[121, 49]⟩, ⟨#[120, 50]⟩] : List ByteArray).map S by simp) (gm (ixg hx107)))) ?_)
  obtain ⟨r310, hr310, h⟩ := bsm h
  refine callA (c_spec_l01Leaf n ⟨#[73, 100]⟩ x107 _ hr310) ?_
  replace h := Option.some.inj h
  subst h
  exact ⟨[.p (r310.enc)], [.box 213 [.p (.lst (bl r309.2.code)), .p (I r309.2.at_), .p (I r309.2.seed)]], ⟨[], ⟨rfl, trivial⟩, ⟨⟨rfl, rfl, rfl, rfl, trivial⟩, trivial⟩, rfl⟩, rfl, rfl, rfl⟩
def m_spec_l12DrawTerm_j2 (self_spec_l12DrawTerm : Cu → Int → Option (Tree × Cu)) (n : Nat) (a33 : Int) (r317 : Tree × Cu) (r347 : Int × Cu) (v140 : Bool) : Option (Tree × Cu) :=
  bif v140 then (
    (m_spec_l12DrawId n r347.2).bind fun r350 =>
    (m_spec_l01Node n ⟨#[76, 97, 109]⟩ [r350.1, r317.1]).bind fun r351 =>
    some (r351, r350.2))
  else (
    bif (r347.1 == 2) then (
      (self_spec_l12DrawTerm r347.2 (wr .i64 (a33 - 1))).bind fun r354 =>
      (m_spec_l01Node n ⟨#[65, 112, 112]⟩ [r317.1, r354.1]).bind fun r355 =>
      some (r355, r354.2))
    else (
      bif (r347.1 == 3) then (
        (m_spec_l12DrawId n r347.2).bind fun r359 =>
        (self_spec_l12DrawTerm r359.2 (wr .i64 (a33 - 1))).bind fun r360 =>
        (m_spec_l01Node n ⟨#[76, 101, 116]⟩ [r359.1, r317.1, r360.1]).bind fun r361 =>
        some (r361, r360.2))
      else (
        bif (r347.1 == 4) then (
          (self_spec_l12DrawTerm r347.2 0).bind fun r365 =>
          (self_spec_l12DrawTerm r365.2 (wr .i64 (a33 - 1))).bind fun r366 =>
          (m_spec_l01Node n ⟨#[73, 102]⟩ [r365.1, r317.1, r366.1]).bind fun r367 =>
          some (r367, r366.2))
        else (
          bif (r347.1 == 5) then (
            (self_spec_l12DrawTerm r347.2 (wr .i64 (a33 - 1))).bind fun r370 =>
            (m_spec_l01Node n ⟨#[65, 100, 100]⟩ [r317.1, r370.1]).bind fun r371 =>
            some (r371, r370.2))
          else (
            bif (r347.1 == 6) then (
              (self_spec_l12DrawTerm r347.2 0).bind fun r374 =>
              (m_spec_l01Node n ⟨#[69, 113]⟩ [r317.1, r374.1]).bind fun r375 =>
              some (r375, r374.2))
            else (
              (self_spec_l12DrawTerm r347.2 0).bind fun r376 =>
              some (r376.1, r376.2)))))))
def m_spec_l12DrawTerm : Nat → Cu → Int → Option (Tree × Cu)
  | 0, _, _ => none
  | n + 1, a32, a33 =>
    bif (decide (a33 ≤ 0)) then (
      (m_spec_l01Cur_pick n a32 6).bind fun r311 =>
      bif (r311.1 == 0) then (
        (m_spec_l01Cur_pick n r311.2 4).bind fun r312 =>
        (ix ([⟨#[48]⟩, ⟨#[49]⟩, ⟨#[52, 50]⟩, ⟨#[55]⟩]) r312.1).bind fun x108 =>
        (m_spec_l01Leaf n ⟨#[78, 117, 109]⟩ x108).bind fun r313 =>
        some (r313, r312.2))
      else (
        bif (r311.1 == 1) then (
          (m_spec_l01Cur_pick n r311.2 2).bind fun r314 =>
          (ix ([⟨#[89, 101, 115]⟩, ⟨#[78, 111]⟩]) r314.1).bind fun x109 =>
          (m_spec_l01Leaf n x109 ⟨#[]⟩).bind fun r315 =>
          some (r315, r314.2))
        else (
          (m_spec_l12DrawId n r311.2).bind fun r316 =>
          some (r316.1, r316.2))))
    else (
      ((m_spec_l12DrawTerm n) a32 (wr .i64 (a33 - 1))).bind fun r317 =>
      (m_spec_l01Cur_pick n r317.2 8).bind fun r347 =>
      bif (r347.1 == 0) then (
        m_spec_l12DrawTerm_j2 (m_spec_l12DrawTerm n) n a33 r317 r347 true)
      else (
        m_spec_l12DrawTerm_j2 (m_spec_l12DrawTerm n) n a33 r317 r347 (r347.1 == 1)))
theorem c_spec_l12DrawTerm : ∀ (n : Nat) (a32 : Cu) (a33 : Int) (r : Tree × Cu) (h : m_spec_l12DrawTerm n a32 a33 = some r), Sy.Fn Try.prog 98 [.ptr 0 0, .p (I a33)] [.box 213 [.p (.lst (bl a32.code)), .p (I a32.at_), .p (I a32.seed)]] (fun rs τ' => rs = [.p (r.1.enc)] ∧ τ' = [.box 213 [.p (.lst (bl r.2.code)), .p (I r.2.at_), .p (I r.2.seed)]])
  | 0, _, _, r, h => ns h
  | n + 1, a32, a33, r, h => by
    have ih_spec_l12DrawTerm := c_spec_l12DrawTerm n
    unfold m_spec_l12DrawTerm at h
    refine fn_introJ Try.func98 rfl rfl rfl ?_
    refine .inl ?_
    refine .inl ?_
    refine .inl ?_
    refine And.intro (fun c => ?_) (fun c => ?_)
    · replace h := cT h c
      refine .inl ?_
      refine .inl ?_
      obtain ⟨r311, hr311, h⟩ := bsm h
      refine callW (args' := [.ptr 0 0, .p (I 6)]) (τ0 := [.box 213 [.p (.lst (bl a32.code)), .p (I a32.at_), .p (I a32.seed)]]) [0] [] (c_spec_l01Cur_pick n a32 6 _ hr311) (fun K hk => hk) rfl ⟨rfl, rfl, trivial⟩ ⟨⟨rfl, rfl, rfl, rfl, trivial⟩, trivial⟩ rfl ?_
      rintro rs τ' hl' ⟨rfl, rfl⟩
      refine .inl ?_
      refine And.intro (fun c => ?_) (fun c => ?_)
      · replace h := cT h c
        refine .inl ?_
        refine And.intro (show fits _ _ from ⟨⟨rfl, rfl⟩, ⟨⟨rfl, rfl⟩, ⟨⟨rfl, rfl⟩, ⟨⟨rfl, rfl⟩, trivial⟩⟩⟩⟩) ?_
        obtain ⟨r312, hr312, h⟩ := bsm h
        refine callW (args' := [.ptr 0 0, .p (I 4)]) (τ0 := [.box 213 [.p (.lst (bl r311.2.code)), .p (I r311.2.at_), .p (I r311.2.seed)]]) [0] [] (c_spec_l01Cur_pick n r311.2 4 _ hr312) (fun K hk => hk) rfl ⟨rfl, rfl, trivial⟩ ⟨⟨rfl, rfl, rfl, rfl, trivial⟩, trivial⟩ rfl ?_
        rintro rs τ' hl' ⟨rfl, rfl⟩
        obtain ⟨x108, hx108, h⟩ := bsm h
        refine And.intro (by have q := ixr hx108; simp at q ⊢; omega) ?_
        refine Exists.intro _ (And.intro (gz (gc (show [S ⟨#[48]⟩, S ⟨#[49]⟩, S ⟨#[52, 50]⟩, S ⟨#[55]⟩] = ([⟨#[48]⟩, ⟨#[49]⟩, ⟨#[52, 50]⟩, ⟨#[55]⟩] : List ByteArray).map S by simp) (gm (ixg hx108)))) ?_)
        obtain ⟨r313, hr313, h⟩ := bsm h
        refine callA (c_spec_l01Leaf n ⟨#[78, 117, 109]⟩ x108 _ hr313) ?_
        replace h := Option.some.inj h
        subst h
        exact ⟨[.p (r313.enc)], [.box 213 [.p (.lst (bl r312.2.code)), .p (I r312.2.at_), .p (I r312.2.seed)]], ⟨[], ⟨rfl, trivial⟩, ⟨⟨rfl, rfl, rfl, rfl, trivial⟩, trivial⟩, rfl⟩, rfl, rfl, rfl⟩
      · replace h := cF h c
        refine .inl ?_
        refine And.intro (fun c => ?_) (fun c => ?_)
        · replace h := cT h c
          refine .inl ?_
          refine And.intro (show fits _ _ from ⟨⟨rfl, rfl⟩, ⟨⟨rfl, rfl⟩, trivial⟩⟩) ?_
          obtain ⟨r314, hr314, h⟩ := bsm h
          refine callW (args' := [.ptr 0 0, .p (I 2)]) (τ0 := [.box 213 [.p (.lst (bl r311.2.code)), .p (I r311.2.at_), .p (I r311.2.seed)]]) [0] [] (c_spec_l01Cur_pick n r311.2 2 _ hr314) (fun K hk => hk) rfl ⟨rfl, rfl, trivial⟩ ⟨⟨rfl, rfl, rfl, rfl, trivial⟩, trivial⟩ rfl ?_
          rintro rs τ' hl' ⟨rfl, rfl⟩
          obtain ⟨x109, hx109, h⟩ := bsm h
          refine And.intro (by have q := ixr hx109; simp at q ⊢; omega) ?_
          refine Exists.intro _ (And.intro (gz (gc (show [S ⟨#[89, 101, 115]⟩, S ⟨#[78, 111]⟩] = ([⟨#[89, 101, 115]⟩, ⟨#[78, 111]⟩] : List ByteArray).map S by simp) (gm (ixg hx109)))) ?_)
          obtain ⟨r315, hr315, h⟩ := bsm h
          refine callA (c_spec_l01Leaf n x109 ⟨#[]⟩ _ hr315) ?_
          replace h := Option.some.inj h
          subst h
          exact ⟨[.p (r315.enc)], [.box 213 [.p (.lst (bl r314.2.code)), .p (I r314.2.at_), .p (I r314.2.seed)]], ⟨[], ⟨rfl, trivial⟩, ⟨⟨rfl, rfl, rfl, rfl, trivial⟩, trivial⟩, rfl⟩, rfl, rfl, rfl⟩
        · replace h := cF h c
          refine .inl ?_
          obtain ⟨r316, hr316, h⟩ := bsm h
          refine callW (args' := [.ptr 0 0]) (τ0 := [.box 213 [.p (.lst (bl r311.2.code)), .p (I r311.2.at_), .p (I r311.2.seed)]]) [0] [] (c_spec_l12DrawId n r311.2 _ hr316) (fun K hk => hk) rfl ⟨rfl, trivial⟩ ⟨⟨rfl, rfl, rfl, rfl, trivial⟩, trivial⟩ rfl ?_
          rintro rs τ' hl' ⟨rfl, rfl⟩
          replace h := Option.some.inj h
          subst h
          exact ⟨[.p (r316.1.enc)], [.box 213 [.p (.lst (bl r316.2.code)), .p (I r316.2.at_), .p (I r316.2.seed)]], ⟨[], ⟨rfl, trivial⟩, ⟨⟨rfl, rfl, rfl, rfl, trivial⟩, trivial⟩, rfl⟩, rfl, rfl, rfl⟩
    · replace h := cF h c
      refine .inl ?_
      obtain ⟨r317, hr317, h⟩ := bsm h
      refine callW (args' := [.ptr 0 0, .p (I (wr .i64 (a33 - 1)))]) (τ0 := [.box 213 [.p (.lst (bl a32.code)), .p (I a32.at_), .p (I a32.seed)]]) [0] [] (ih_spec_l12DrawTerm a32 (wr .i64 (a33 - 1)) _ hr317) (fun K hk => hk) rfl ⟨rfl, rfl, trivial⟩ ⟨⟨rfl, rfl, rfl, rfl, trivial⟩, trivial⟩ rfl ?_
      rintro rs τ' hl' ⟨rfl, rfl⟩
      refine .inl ?_
      refine .inl ?_
      obtain ⟨r347, hr347, h⟩ := bsm h
      refine callW (args' := [.ptr 0 0, .p (I 8)]) (τ0 := [.box 213 [.p (.lst (bl r317.2.code)), .p (I r317.2.at_), .p (I r317.2.seed)]]) [0] [] (c_spec_l01Cur_pick n r317.2 8 _ hr347) (fun K hk => hk) rfl ⟨rfl, rfl, trivial⟩ ⟨⟨rfl, rfl, rfl, rfl, trivial⟩, trivial⟩ rfl ?_
      rintro rs τ' hl' ⟨rfl, rfl⟩
      refine .inr ⟨Bool, fun x => ([(0, .ptr 0 0), (1, .p (I a33)), (4, .ptr 1 0), (5, .ptr 2 0), (33, .p (I r347.1)), (34, .p (B x))], [.box 213 [.p (.lst (bl r347.2.code)), .p (I r347.2.at_), .p (I r347.2.seed)], .box 31 [.p (S ⟨#[]⟩), .p (S ⟨#[]⟩), .p (B false), .tl []], .box 31 [.p (S r317.1.nm), .p (S r317.1.tx), .p (B r317.1.lf), .p (.lst (encM r317.1.ks))]]), fun x => m_spec_l12DrawTerm_j2 (m_spec_l12DrawTerm n) n a33 r317 r347 x = some r, ?_, ?_⟩
      · refine .inl ?_
        refine And.intro (fun c => ?_) (fun c => ?_)
        · replace h := cT h c
          exact ⟨true, h, [], ⟨rfl, rfl, rfl, rfl, rfl, rfl, trivial⟩, ⟨⟨rfl, rfl, rfl, rfl, trivial⟩, ⟨rfl, rfl, rfl, rfl, rfl, trivial⟩, ⟨rfl, rfl, rfl, rfl, rfl, trivial⟩, trivial⟩, rfl⟩
        · replace h := cF h c
          exact ⟨(r347.1 == 1), h, [], ⟨rfl, rfl, rfl, rfl, rfl, rfl, trivial⟩, ⟨⟨rfl, rfl, rfl, rfl, trivial⟩, ⟨rfl, rfl, rfl, rfl, rfl, trivial⟩, ⟨rfl, rfl, rfl, rfl, rfl, trivial⟩, trivial⟩, rfl⟩
      · rintro v140 h
        unfold m_spec_l12DrawTerm_j2 at h
        refine And.intro (fun c => ?_) (fun c => ?_)
        · replace h := cT h c
          refine .inl ?_
          refine ⟨[0, 2, 1, 3, 4, 1005], [0], by decide +kernel, ?_⟩
          obtain ⟨r350, hr350, h⟩ := bsm h
          refine callW (args' := [.ptr 0 0]) (τ0 := [.box 213 [.p (.lst (bl r347.2.code)), .p (I r347.2.at_), .p (I r347.2.seed)]]) [0] [] (c_spec_l12DrawId n r347.2 _ hr350) (fun K hk => hk) rfl ⟨rfl, trivial⟩ ⟨⟨rfl, rfl, rfl, rfl, trivial⟩, trivial⟩ rfl ?_
          rintro rs τ' hl' ⟨rfl, rfl⟩
          refine And.intro (show fits _ _ from ⟨⟨rfl, rfl⟩, ⟨⟨rfl, rfl⟩, trivial⟩⟩) ?_
          obtain ⟨r351, hr351, h⟩ := bsm h
          refine callP (c_spec_l01Node n ⟨#[76, 97, 109]⟩ [r350.1, r317.1] _ hr351) (fun K hk => Exists.intro _ (And.intro (rowN (show [r350.1.enc, r317.1.enc] = encM [r350.1, r317.1] by simp) (show 2 = (encM [r350.1, r317.1]).length by simp)) hk)) ?_
          replace h := Option.some.inj h
          subst h
          exact ⟨[.p (r351.enc)], [.box 213 [.p (.lst (bl r350.2.code)), .p (I r350.2.at_), .p (I r350.2.seed)]], ⟨[], ⟨rfl, trivial⟩, ⟨⟨rfl, rfl, rfl, rfl, trivial⟩, trivial⟩, rfl⟩, rfl, rfl, rfl⟩
        · replace h := cF h c
          refine .inl ?_
          refine And.intro (fun c => ?_) (fun c => ?_)
          · replace h := cT h c
            refine .inl ?_
            refine ⟨[0, 1, 2, 3, 4, 5, 6, 1007], [0], by decide +kernel, ?_⟩
            obtain ⟨r354, hr354, h⟩ := bsm h
            refine callW (args' := [.ptr 0 0, .p (I (wr .i64 (a33 - 1)))]) (τ0 := [.box 213 [.p (.lst (bl r347.2.code)), .p (I r347.2.at_), .p (I r347.2.seed)]]) [0] [] (ih_spec_l12DrawTerm r347.2 (wr .i64 (a33 - 1)) _ hr354) (fun K hk => hk) rfl ⟨rfl, rfl, trivial⟩ ⟨⟨rfl, rfl, rfl, rfl, trivial⟩, trivial⟩ rfl ?_
            rintro rs τ' hl' ⟨rfl, rfl⟩
            refine And.intro (show fits _ _ from ⟨⟨rfl, rfl⟩, ⟨⟨rfl, rfl⟩, trivial⟩⟩) ?_
            obtain ⟨r355, hr355, h⟩ := bsm h
            refine callP (c_spec_l01Node n ⟨#[65, 112, 112]⟩ [r317.1, r354.1] _ hr355) (fun K hk => Exists.intro _ (And.intro (rowN (show [r317.1.enc, r354.1.enc] = encM [r317.1, r354.1] by simp) (show 2 = (encM [r317.1, r354.1]).length by simp)) hk)) ?_
            replace h := Option.some.inj h
            subst h
            exact ⟨[.p (r355.enc)], [.box 213 [.p (.lst (bl r354.2.code)), .p (I r354.2.at_), .p (I r354.2.seed)]], ⟨[], ⟨rfl, trivial⟩, ⟨⟨rfl, rfl, rfl, rfl, trivial⟩, trivial⟩, rfl⟩, rfl, rfl, rfl⟩
          · replace h := cF h c
            refine .inl ?_
            refine And.intro (fun c => ?_) (fun c => ?_)
            · replace h := cT h c
              refine .inl ?_
              refine ⟨[0, 2, 3, 4, 5, 1, 6, 7, 8, 1009], [0], by decide +kernel, ?_⟩
              obtain ⟨r359, hr359, h⟩ := bsm h
              refine callW (args' := [.ptr 0 0]) (τ0 := [.box 213 [.p (.lst (bl r347.2.code)), .p (I r347.2.at_), .p (I r347.2.seed)]]) [0] [] (c_spec_l12DrawId n r347.2 _ hr359) (fun K hk => hk) rfl ⟨rfl, trivial⟩ ⟨⟨rfl, rfl, rfl, rfl, trivial⟩, trivial⟩ rfl ?_
              rintro rs τ' hl' ⟨rfl, rfl⟩
              obtain ⟨r360, hr360, h⟩ := bsm h
              refine callW (args' := [.ptr 0 0, .p (I (wr .i64 (a33 - 1)))]) (τ0 := [.box 213 [.p (.lst (bl r359.2.code)), .p (I r359.2.at_), .p (I r359.2.seed)]]) [0] [] (ih_spec_l12DrawTerm r359.2 (wr .i64 (a33 - 1)) _ hr360) (fun K hk => hk) rfl ⟨rfl, rfl, trivial⟩ ⟨⟨rfl, rfl, rfl, rfl, trivial⟩, trivial⟩ rfl ?_
              rintro rs τ' hl' ⟨rfl, rfl⟩
              refine And.intro (show fits _ _ from ⟨⟨rfl, rfl⟩, ⟨⟨rfl, rfl⟩, ⟨⟨rfl, rfl⟩, trivial⟩⟩⟩) ?_
              obtain ⟨r361, hr361, h⟩ := bsm h
              refine callP (c_spec_l01Node n ⟨#[76, 101, 116]⟩ [r359.1, r317.1, r360.1] _ hr361) (fun K hk => Exists.intro _ (And.intro (rowN (show [r359.1.enc, r317.1.enc, r360.1.enc] = encM [r359.1, r317.1, r360.1] by simp) (show 3 = (encM [r359.1, r317.1, r360.1]).length by simp)) hk)) ?_
              replace h := Option.some.inj h
              subst h
              exact ⟨[.p (r361.enc)], [.box 213 [.p (.lst (bl r360.2.code)), .p (I r360.2.at_), .p (I r360.2.seed)]], ⟨[], ⟨rfl, trivial⟩, ⟨⟨rfl, rfl, rfl, rfl, trivial⟩, trivial⟩, rfl⟩, rfl, rfl, rfl⟩
            · replace h := cF h c
              refine .inl ?_
              refine And.intro (fun c => ?_) (fun c => ?_)
              · replace h := cT h c
                refine .inl ?_
                refine ⟨[0, 2, 3, 4, 5, 1, 6, 7, 8, 1009], [0], by decide +kernel, ?_⟩
                obtain ⟨r365, hr365, h⟩ := bsm h
                refine callW (args' := [.ptr 0 0, .p (I 0)]) (τ0 := [.box 213 [.p (.lst (bl r347.2.code)), .p (I r347.2.at_), .p (I r347.2.seed)]]) [0] [] (ih_spec_l12DrawTerm r347.2 0 _ hr365) (fun K hk => hk) rfl ⟨rfl, rfl, trivial⟩ ⟨⟨rfl, rfl, rfl, rfl, trivial⟩, trivial⟩ rfl ?_
                rintro rs τ' hl' ⟨rfl, rfl⟩
                obtain ⟨r366, hr366, h⟩ := bsm h
                refine callW (args' := [.ptr 0 0, .p (I (wr .i64 (a33 - 1)))]) (τ0 := [.box 213 [.p (.lst (bl r365.2.code)), .p (I r365.2.at_), .p (I r365.2.seed)]]) [0] [] (ih_spec_l12DrawTerm r365.2 (wr .i64 (a33 - 1)) _ hr366) (fun K hk => hk) rfl ⟨rfl, rfl, trivial⟩ ⟨⟨rfl, rfl, rfl, rfl, trivial⟩, trivial⟩ rfl ?_
                rintro rs τ' hl' ⟨rfl, rfl⟩
                refine And.intro (show fits _ _ from ⟨⟨rfl, rfl⟩, ⟨⟨rfl, rfl⟩, ⟨⟨rfl, rfl⟩, trivial⟩⟩⟩) ?_
                obtain ⟨r367, hr367, h⟩ := bsm h
                refine callP (c_spec_l01Node n ⟨#[73, 102]⟩ [r365.1, r317.1, r366.1] _ hr367) (fun K hk => Exists.intro _ (And.intro (rowN (show [r365.1.enc, r317.1.enc, r366.1.enc] = encM [r365.1, r317.1, r366.1] by simp) (show 3 = (encM [r365.1, r317.1, r366.1]).length by simp)) hk)) ?_
                replace h := Option.some.inj h
                subst h
                exact ⟨[.p (r367.enc)], [.box 213 [.p (.lst (bl r366.2.code)), .p (I r366.2.at_), .p (I r366.2.seed)]], ⟨[], ⟨rfl, trivial⟩, ⟨⟨rfl, rfl, rfl, rfl, trivial⟩, trivial⟩, rfl⟩, rfl, rfl, rfl⟩
              · replace h := cF h c
                refine .inl ?_
                refine And.intro (fun c => ?_) (fun c => ?_)
                · replace h := cT h c
                  refine .inl ?_
                  refine ⟨[0, 1, 2, 3, 4, 5, 6, 1007], [0], by decide +kernel, ?_⟩
                  obtain ⟨r370, hr370, h⟩ := bsm h
                  refine callW (args' := [.ptr 0 0, .p (I (wr .i64 (a33 - 1)))]) (τ0 := [.box 213 [.p (.lst (bl r347.2.code)), .p (I r347.2.at_), .p (I r347.2.seed)]]) [0] [] (ih_spec_l12DrawTerm r347.2 (wr .i64 (a33 - 1)) _ hr370) (fun K hk => hk) rfl ⟨rfl, rfl, trivial⟩ ⟨⟨rfl, rfl, rfl, rfl, trivial⟩, trivial⟩ rfl ?_
                  rintro rs τ' hl' ⟨rfl, rfl⟩
                  refine And.intro (show fits _ _ from ⟨⟨rfl, rfl⟩, ⟨⟨rfl, rfl⟩, trivial⟩⟩) ?_
                  obtain ⟨r371, hr371, h⟩ := bsm h
                  refine callP (c_spec_l01Node n ⟨#[65, 100, 100]⟩ [r317.1, r370.1] _ hr371) (fun K hk => Exists.intro _ (And.intro (rowN (show [r317.1.enc, r370.1.enc] = encM [r317.1, r370.1] by simp) (show 2 = (encM [r317.1, r370.1]).length by simp)) hk)) ?_
                  replace h := Option.some.inj h
                  subst h
                  exact ⟨[.p (r371.enc)], [.box 213 [.p (.lst (bl r370.2.code)), .p (I r370.2.at_), .p (I r370.2.seed)]], ⟨[], ⟨rfl, trivial⟩, ⟨⟨rfl, rfl, rfl, rfl, trivial⟩, trivial⟩, rfl⟩, rfl, rfl, rfl⟩
                · replace h := cF h c
                  refine .inl ?_
                  refine And.intro (fun c => ?_) (fun c => ?_)
                  · replace h := cT h c
                    refine .inl ?_
                    refine ⟨[0, 1, 2, 3, 4, 1005], [0], by decide +kernel, ?_⟩
                    obtain ⟨r374, hr374, h⟩ := bsm h
                    refine callW (args' := [.ptr 0 0, .p (I 0)]) (τ0 := [.box 213 [.p (.lst (bl r347.2.code)), .p (I r347.2.at_), .p (I r347.2.seed)]]) [0] [] (ih_spec_l12DrawTerm r347.2 0 _ hr374) (fun K hk => hk) rfl ⟨rfl, rfl, trivial⟩ ⟨⟨rfl, rfl, rfl, rfl, trivial⟩, trivial⟩ rfl ?_
                    rintro rs τ' hl' ⟨rfl, rfl⟩
                    refine And.intro (show fits _ _ from ⟨⟨rfl, rfl⟩, ⟨⟨rfl, rfl⟩, trivial⟩⟩) ?_
                    obtain ⟨r375, hr375, h⟩ := bsm h
                    refine callP (c_spec_l01Node n ⟨#[69, 113]⟩ [r317.1, r374.1] _ hr375) (fun K hk => Exists.intro _ (And.intro (rowN (show [r317.1.enc, r374.1.enc] = encM [r317.1, r374.1] by simp) (show 2 = (encM [r317.1, r374.1]).length by simp)) hk)) ?_
                    replace h := Option.some.inj h
                    subst h
                    exact ⟨[.p (r375.enc)], [.box 213 [.p (.lst (bl r374.2.code)), .p (I r374.2.at_), .p (I r374.2.seed)]], ⟨[], ⟨rfl, trivial⟩, ⟨⟨rfl, rfl, rfl, rfl, trivial⟩, trivial⟩, rfl⟩, rfl, rfl, rfl⟩
                  · replace h := cF h c
                    refine .inl ?_
                    obtain ⟨r376, hr376, h⟩ := bsm h
                    refine callW (args' := [.ptr 0 0, .p (I 0)]) (τ0 := [.box 213 [.p (.lst (bl r347.2.code)), .p (I r347.2.at_), .p (I r347.2.seed)]]) [0] [] (ih_spec_l12DrawTerm r347.2 0 _ hr376) (fun K hk => hk) rfl ⟨rfl, rfl, trivial⟩ ⟨⟨rfl, rfl, rfl, rfl, trivial⟩, trivial⟩ rfl ?_
                    rintro rs τ' hl' ⟨rfl, rfl⟩
                    replace h := Option.some.inj h
                    subst h
                    exact ⟨[.p (r376.1.enc)], [.box 213 [.p (.lst (bl r376.2.code)), .p (I r376.2.at_), .p (I r376.2.seed)]], ⟨[], ⟨rfl, trivial⟩, ⟨⟨rfl, rfl, rfl, rfl, trivial⟩, trivial⟩, rfl⟩, rfl, rfl, rfl⟩
def m_spec_DrawRename_j1 (n : Nat) (v141 : Cu) (v142 : gSg) : Option (gSg × Int × ByteArray) :=
  (m_spec_l01Cur_pick n v141 (wr .i64 (((v142.decls_.map gSpot.enc).length : Int) + 2))).bind fun r391 =>
  (m_spec_l01Cur_pick n r391.2 2).bind fun r392 =>
  (m_spec_l01Cur_pick n r392.2 6).bind fun r393 =>
  (ix ([⟨#[120]⟩, ⟨#[121]⟩, ⟨#[122]⟩, ⟨#[110, 101, 119]⟩, ⟨#[102]⟩, ⟨#[]⟩]) r393.1).bind fun x115 =>
  some (v142, (wr .i64 (r391.1 - r392.1)), x115)
def m_spec_DrawRename (n : Nat) (a34 : List UInt8) : Option (gSg × Int × ByteArray) :=
  (m_spec_l01DrawCur n a34).bind fun r377 =>
  (m_spec_l12DrawAnySg n r377).bind fun r378 =>
  (m_spec_l01Cur_pick n r378.2 2).bind fun r400 =>
  bif (r400.1 == 0) then (
    (m_spec_l12DrawTerm n r400.2 4).bind fun r401 =>
    (m_spec_ScopesOf n r401.1).bind fun r402 =>
    bif (r402.2.2.2 == 0) then (
      m_spec_DrawRename_j1 n r401.2 r402.1)
    else (
      m_spec_DrawRename_j1 n r401.2 r378.1))
  else (
    m_spec_DrawRename_j1 n r400.2 r378.1)
theorem c_spec_DrawRename (n : Nat) (a34 : List UInt8) (r : gSg × Int × ByteArray) (h : m_spec_DrawRename n a34 = some r) : FnP Try.prog 37 [.lst (bl a34)] [r.1.enc, I r.2.1, S r.2.2] := by
  unfold m_spec_DrawRename at h
  refine fn_introJ Try.func37 rfl rfl rfl ?_
  refine .inl ?_
  refine .inl ?_
  obtain ⟨r377, hr377, h⟩ := bsm h
  refine callW (args' := [.p (.lst (bl a34))]) (τ0 := []) [] [] (c_spec_l01DrawCur n a34 _ hr377) (fun K hk => hk) rfl ⟨rfl, trivial⟩ trivial rfl ?_
  rintro rs τ' hl' ⟨rfl, rfl⟩
  refine .inl ?_
  obtain ⟨r378, hr378, h⟩ := bsm h
  refine callW (args' := [.ptr 0 0]) (τ0 := [.box 213 [.p (.lst (bl r377.code)), .p (I r377.at_), .p (I r377.seed)]]) [1] [] (c_spec_l12DrawAnySg n r377 _ hr378) (fun K hk => hk) rfl ⟨rfl, trivial⟩ ⟨⟨rfl, rfl, rfl, rfl, trivial⟩, trivial⟩ rfl ?_
  rintro rs τ' hl' ⟨rfl, rfl⟩
  refine .inr ⟨Cu × gSg, fun x => ([(2, .ptr 0 0), (5, .ptr 1 0), (6, .ptr 2 0)], [.box 65 [.p (I 0), .tl [], .tl [], .tl []], .box 213 [.p (.lst (bl x.1.code)), .p (I x.1.at_), .p (I x.1.seed)], .box 65 [.p (I x.2.scopes_), .p (.lst (x.2.edges_.map gSEdge.enc)), .p (.lst (x.2.decls_.map gSpot.enc)), .p (.lst (x.2.refs_.map gSpot.enc))]]), fun x => m_spec_DrawRename_j1 n x.1 x.2 = some r, ?_, ?_⟩
  · refine .inl ?_
    obtain ⟨r400, hr400, h⟩ := bsm h
    refine callW (args' := [.ptr 0 0, .p (I 2)]) (τ0 := [.box 213 [.p (.lst (bl r378.2.code)), .p (I r378.2.at_), .p (I r378.2.seed)]]) [1] [] (c_spec_l01Cur_pick n r378.2 2 _ hr400) (fun K hk => hk) rfl ⟨rfl, rfl, trivial⟩ ⟨⟨rfl, rfl, rfl, rfl, trivial⟩, trivial⟩ rfl ?_
    rintro rs τ' hl' ⟨rfl, rfl⟩
    refine And.intro (fun c => ?_) (fun c => ?_)
    · replace h := cT h c
      refine .inl ?_
      obtain ⟨r401, hr401, h⟩ := bsm h
      refine callW (args' := [.ptr 0 0, .p (I 4)]) (τ0 := [.box 213 [.p (.lst (bl r400.2.code)), .p (I r400.2.at_), .p (I r400.2.seed)]]) [1] [] (c_spec_l12DrawTerm n r400.2 4 _ hr401) (fun K hk => hk) rfl ⟨rfl, rfl, trivial⟩ ⟨⟨rfl, rfl, rfl, rfl, trivial⟩, trivial⟩ rfl ?_
      rintro rs τ' hl' ⟨rfl, rfl⟩
      refine .inl ?_
      obtain ⟨r402, hr402, h⟩ := bsm h
      refine callA (c_spec_ScopesOf n r401.1 _ hr402) ?_
      refine .inl ?_
      refine And.intro (fun c => ?_) (fun c => ?_)
      · replace h := cT h c
        exact ⟨(r401.2, r402.1), h, [], ⟨rfl, rfl, rfl, trivial⟩, ⟨⟨rfl, rfl, rfl, rfl, rfl, trivial⟩, ⟨rfl, rfl, rfl, rfl, trivial⟩, ⟨rfl, rfl, rfl, rfl, rfl, trivial⟩, trivial⟩, rfl⟩
      · replace h := cF h c
        exact ⟨(r401.2, r378.1), h, [], ⟨rfl, rfl, rfl, trivial⟩, ⟨⟨rfl, rfl, rfl, rfl, rfl, trivial⟩, ⟨rfl, rfl, rfl, rfl, trivial⟩, ⟨rfl, rfl, rfl, rfl, rfl, trivial⟩, trivial⟩, rfl⟩
    · replace h := cF h c
      exact ⟨(r400.2, r378.1), h, [], ⟨rfl, rfl, rfl, trivial⟩, ⟨⟨rfl, rfl, rfl, rfl, rfl, trivial⟩, ⟨rfl, rfl, rfl, rfl, trivial⟩, ⟨rfl, rfl, rfl, rfl, rfl, trivial⟩, trivial⟩, rfl⟩
  · rintro ⟨v141, v142⟩ h
    unfold m_spec_DrawRename_j1 at h
    refine .inl ?_
    refine ⟨[0, 1, 2, 3, 4, 5, 7, 11, 5000, 6, 5000, 8, 9, 5000, 6000, 6000, 6000, 6000, 6000, 6000, 6000, 10, 12, 13, 14, 15, 16, 17, 12, 5000, 10, 13, 14, 15, 16, 17, 15, 16, 10, 13, 14, 17, 6000, 6000, 6000, 6000, 6000, 6000, 6000, 6000, 6000, 6000, 6000, 6000, 6000, 6000, 6000, 6000, 6000, 6000, 6000, 6000, 6000, 6000, 10, 8, 9, 12, 13, 14, 15, 16, 17, 6000, 6000, 6000, 6000, 6000, 6000, 6000, 6000, 6000, 6000, 6000, 6000, 6000, 6000, 6000, 6000, 6000, 6000, 6000, 6000, 6000, 6000, 6000, 6000, 6000, 6000, 6000, 6000, 6000, 6000, 6000, 6000, 6000, 6000, 6000, 6000, 6000, 6000, 6000, 6000, 6000, 6000, 6000, 6000, 6000, 6000, 6000, 6000, 6000, 6000, 6000, 6000, 6000, 6000, 10, 6, 8, 9, 12, 13, 14, 15, 16, 17], [0, 1], by decide +kernel, ?_⟩
    obtain ⟨r391, hr391, h⟩ := bsm h
    obtain ⟨r392, hr392, h⟩ := bsm h
    obtain ⟨r393, hr393, h⟩ := bsm h
    obtain ⟨x115, hx115, h⟩ := bsm h
    refine And.intro ?_ ?_
    · skip
      refine callW (args' := [.ptr 0 0, .p (I (wr .i64 (((v142.decls_.map gSpot.enc).length : Int) + 2)))]) (τ0 := [.box 213 [.p (.lst (bl v141.code)), .p (I v141.at_), .p (I v141.seed)]]) [1] [] (c_spec_l01Cur_pick n v141 (wr .i64 (((v142.decls_.map gSpot.enc).length : Int) + 2)) _ hr391) (fun K hk => hk) rfl ⟨rfl, rfl, trivial⟩ ⟨⟨rfl, rfl, rfl, rfl, trivial⟩, trivial⟩ rfl ?_
      rintro rs τ' hl' ⟨rfl, rfl⟩
      refine And.intro ?_ ?_
      · skip
        refine callW (args' := [.ptr 0 0, .p (I 2)]) (τ0 := [.box 213 [.p (.lst (bl r391.2.code)), .p (I r391.2.at_), .p (I r391.2.seed)]]) [1] [] (c_spec_l01Cur_pick n r391.2 2 _ hr392) (fun K hk => hk) rfl ⟨rfl, rfl, trivial⟩ ⟨⟨rfl, rfl, rfl, rfl, trivial⟩, trivial⟩ rfl ?_
        rintro rs τ' hl' ⟨rfl, rfl⟩
        refine And.intro ?_ ?_
        · refine And.intro (show fits _ _ from ⟨⟨rfl, rfl⟩, ⟨⟨rfl, rfl⟩, ⟨⟨rfl, rfl⟩, ⟨⟨rfl, rfl⟩, ⟨⟨rfl, rfl⟩, ⟨⟨rfl, rfl⟩, trivial⟩⟩⟩⟩⟩⟩) ?_
          refine callW (args' := [.ptr 0 0, .p (I 6)]) (τ0 := [.box 213 [.p (.lst (bl r392.2.code)), .p (I r392.2.at_), .p (I r392.2.seed)]]) [1] [] (c_spec_l01Cur_pick n r392.2 6 _ hr393) (fun K hk => hk) rfl ⟨rfl, rfl, trivial⟩ ⟨⟨rfl, rfl, rfl, rfl, trivial⟩, trivial⟩ rfl ?_
          rintro rs τ' hl' ⟨rfl, rfl⟩
          refine And.intro (by have q := ixr hx115; simp at q ⊢; omega) ?_
          refine Exists.intro _ (And.intro (gz (gc (show [S ⟨#[120]⟩, S ⟨#[121]⟩, S ⟨#[122]⟩, S ⟨#[110, 101, 119]⟩, S ⟨#[102]⟩, S ⟨#[]⟩] = ([⟨#[120]⟩, ⟨#[121]⟩, ⟨#[122]⟩, ⟨#[110, 101, 119]⟩, ⟨#[102]⟩, ⟨#[]⟩] : List ByteArray).map S by simp) (gm (ixg hx115)))) ?_)
          replace h := Option.some.inj h
          subst h
          exact ⟨[.p (v142.enc), .p (I (wr .i64 (r391.1 - r392.1))), .p (S x115)], [], ⟨[], ⟨rfl, rfl, rfl, trivial⟩, trivial, rfl⟩, rfl, rfl, rfl⟩
        · skip
          refine callW (args' := [.ptr 0 0, .p (I 6)]) (τ0 := [.box 213 [.p (.lst (bl r392.2.code)), .p (I r392.2.at_), .p (I r392.2.seed)]]) [1] [] (c_spec_l01Cur_pick n r392.2 6 _ hr393) (fun K hk => hk) rfl ⟨rfl, rfl, trivial⟩ ⟨⟨rfl, rfl, rfl, rfl, trivial⟩, trivial⟩ rfl ?_
          rintro rs τ' hl' ⟨rfl, rfl⟩
          refine And.intro ?_ ?_
          · refine And.intro (show fits _ _ from ⟨⟨rfl, rfl⟩, ⟨⟨rfl, rfl⟩, ⟨⟨rfl, rfl⟩, ⟨⟨rfl, rfl⟩, ⟨⟨rfl, rfl⟩, ⟨⟨rfl, rfl⟩, trivial⟩⟩⟩⟩⟩⟩) ?_
            refine And.intro (by have q := ixr hx115; simp at q ⊢; omega) ?_
            refine Exists.intro _ (And.intro (gz (gc (show [S ⟨#[120]⟩, S ⟨#[121]⟩, S ⟨#[122]⟩, S ⟨#[110, 101, 119]⟩, S ⟨#[102]⟩, S ⟨#[]⟩] = ([⟨#[120]⟩, ⟨#[121]⟩, ⟨#[122]⟩, ⟨#[110, 101, 119]⟩, ⟨#[102]⟩, ⟨#[]⟩] : List ByteArray).map S by simp) (gm (ixg hx115)))) ?_)
            replace h := Option.some.inj h
            subst h
            exact ⟨[.p (v142.enc), .p (I (wr .i64 (r391.1 - r392.1))), .p (S x115)], [], ⟨[], ⟨rfl, rfl, rfl, trivial⟩, trivial, rfl⟩, rfl, rfl, rfl⟩
          · refine And.intro (show fits _ _ from ⟨⟨rfl, rfl⟩, ⟨⟨rfl, rfl⟩, ⟨⟨rfl, rfl⟩, ⟨⟨rfl, rfl⟩, ⟨⟨rfl, rfl⟩, ⟨⟨rfl, rfl⟩, trivial⟩⟩⟩⟩⟩⟩) ?_
            refine And.intro (by have q := ixr hx115; simp at q ⊢; omega) ?_
            refine Exists.intro _ (And.intro (gz (gc (show [S ⟨#[120]⟩, S ⟨#[121]⟩, S ⟨#[122]⟩, S ⟨#[110, 101, 119]⟩, S ⟨#[102]⟩, S ⟨#[]⟩] = ([⟨#[120]⟩, ⟨#[121]⟩, ⟨#[122]⟩, ⟨#[110, 101, 119]⟩, ⟨#[102]⟩, ⟨#[]⟩] : List ByteArray).map S by simp) (gm (ixg hx115)))) ?_)
            replace h := Option.some.inj h
            subst h
            exact ⟨[.p (v142.enc), .p (I (wr .i64 (r391.1 - r392.1))), .p (S x115)], [], ⟨[], ⟨rfl, rfl, rfl, trivial⟩, trivial, rfl⟩, rfl, rfl, rfl⟩
      · refine And.intro (show fits _ _ from ⟨⟨rfl, rfl⟩, ⟨⟨rfl, rfl⟩, ⟨⟨rfl, rfl⟩, ⟨⟨rfl, rfl⟩, ⟨⟨rfl, rfl⟩, ⟨⟨rfl, rfl⟩, trivial⟩⟩⟩⟩⟩⟩) ?_
        refine callW (args' := [.ptr 0 0, .p (I 2)]) (τ0 := [.box 213 [.p (.lst (bl r391.2.code)), .p (I r391.2.at_), .p (I r391.2.seed)]]) [1] [] (c_spec_l01Cur_pick n r391.2 2 _ hr392) (fun K hk => hk) rfl ⟨rfl, rfl, trivial⟩ ⟨⟨rfl, rfl, rfl, rfl, trivial⟩, trivial⟩ rfl ?_
        rintro rs τ' hl' ⟨rfl, rfl⟩
        refine callW (args' := [.ptr 0 0, .p (I 6)]) (τ0 := [.box 213 [.p (.lst (bl r392.2.code)), .p (I r392.2.at_), .p (I r392.2.seed)]]) [1] [] (c_spec_l01Cur_pick n r392.2 6 _ hr393) (fun K hk => hk) rfl ⟨rfl, rfl, trivial⟩ ⟨⟨rfl, rfl, rfl, rfl, trivial⟩, trivial⟩ rfl ?_
        rintro rs τ' hl' ⟨rfl, rfl⟩
        refine And.intro (by have q := ixr hx115; simp at q ⊢; omega) ?_
        refine Exists.intro _ (And.intro (gz (gc (show [S ⟨#[120]⟩, S ⟨#[121]⟩, S ⟨#[122]⟩, S ⟨#[110, 101, 119]⟩, S ⟨#[102]⟩, S ⟨#[]⟩] = ([⟨#[120]⟩, ⟨#[121]⟩, ⟨#[122]⟩, ⟨#[110, 101, 119]⟩, ⟨#[102]⟩, ⟨#[]⟩] : List ByteArray).map S by simp) (gm (ixg hx115)))) ?_)
        replace h := Option.some.inj h
        subst h
        exact ⟨[.p (v142.enc), .p (I (wr .i64 (r391.1 - r392.1))), .p (S x115)], [], ⟨[], ⟨rfl, rfl, rfl, trivial⟩, trivial, rfl⟩, rfl, rfl, rfl⟩
    · refine And.intro (show fits _ _ from ⟨⟨rfl, rfl⟩, ⟨⟨rfl, rfl⟩, ⟨⟨rfl, rfl⟩, ⟨⟨rfl, rfl⟩, ⟨⟨rfl, rfl⟩, ⟨⟨rfl, rfl⟩, trivial⟩⟩⟩⟩⟩⟩) ?_
      refine callW (args' := [.ptr 0 0, .p (I (wr .i64 (((v142.decls_.map gSpot.enc).length : Int) + 2)))]) (τ0 := [.box 213 [.p (.lst (bl v141.code)), .p (I v141.at_), .p (I v141.seed)]]) [1] [] (c_spec_l01Cur_pick n v141 (wr .i64 (((v142.decls_.map gSpot.enc).length : Int) + 2)) _ hr391) (fun K hk => hk) rfl ⟨rfl, rfl, trivial⟩ ⟨⟨rfl, rfl, rfl, rfl, trivial⟩, trivial⟩ rfl ?_
      rintro rs τ' hl' ⟨rfl, rfl⟩
      refine callW (args' := [.ptr 0 0, .p (I 2)]) (τ0 := [.box 213 [.p (.lst (bl r391.2.code)), .p (I r391.2.at_), .p (I r391.2.seed)]]) [1] [] (c_spec_l01Cur_pick n r391.2 2 _ hr392) (fun K hk => hk) rfl ⟨rfl, rfl, trivial⟩ ⟨⟨rfl, rfl, rfl, rfl, trivial⟩, trivial⟩ rfl ?_
      rintro rs τ' hl' ⟨rfl, rfl⟩
      refine callW (args' := [.ptr 0 0, .p (I 6)]) (τ0 := [.box 213 [.p (.lst (bl r392.2.code)), .p (I r392.2.at_), .p (I r392.2.seed)]]) [1] [] (c_spec_l01Cur_pick n r392.2 6 _ hr393) (fun K hk => hk) rfl ⟨rfl, rfl, trivial⟩ ⟨⟨rfl, rfl, rfl, rfl, trivial⟩, trivial⟩ rfl ?_
      rintro rs τ' hl' ⟨rfl, rfl⟩
      refine And.intro (by have q := ixr hx115; simp at q ⊢; omega) ?_
      refine Exists.intro _ (And.intro (gz (gc (show [S ⟨#[120]⟩, S ⟨#[121]⟩, S ⟨#[122]⟩, S ⟨#[110, 101, 119]⟩, S ⟨#[102]⟩, S ⟨#[]⟩] = ([⟨#[120]⟩, ⟨#[121]⟩, ⟨#[122]⟩, ⟨#[110, 101, 119]⟩, ⟨#[102]⟩, ⟨#[]⟩] : List ByteArray).map S by simp) (gm (ixg hx115)))) ?_)
      replace h := Option.some.inj h
      subst h
      exact ⟨[.p (v142.enc), .p (I (wr .i64 (r391.1 - r392.1))), .p (S x115)], [], ⟨[], ⟨rfl, rfl, rfl, trivial⟩, trivial, rfl⟩, rfl, rfl, rfl⟩
def m_spec_l12In_j11 (v156 : List Int) : Option (List Int) :=
  some v156
def m_spec_l12In_j20 (v160 : Int) (rec18 : Int → List Int → Option (List Int)) (v168 : List Int) : Option (List Int) :=
  rec18 (wr .i64 (v160 + 1)) v168
def m_spec_l12In_j21 (v160 : Int) (v161 : List Int) (rec18 : Int → List Int → Option (List Int)) (v169 : Bool) : Option (List Int) :=
  bif v169 then (
    gp (v161.length + ([v160] : List Int).length ≤ 68719476736) <|
    m_spec_l12In_j20 v160 rec18 (v161 ++ [v160]))
  else (
    m_spec_l12In_j20 v160 rec18 v161)
def m_spec_l12In_l18 (a35 : gSg) (a36 : List Bool) (a37 : ByteArray) : Nat → Int → List Int → Option (List Int)
  | 0, _, _ => none
  | k18 + 1, v160, v161 =>
    bif (decide (v160 < ((a35.decls_.map gSpot.enc).length : Int))) then (
      (ix a35.decls_ v160).bind fun x189 =>
      (ix a36 x189.scope_).bind fun x190 =>
      bif x190 then (
        (ix a35.decls_ v160).bind fun x191 =>
        m_spec_l12In_j21 v160 v161 (m_spec_l12In_l18 a35 a36 a37 k18) (decide (x191.name_ = a37)))
      else (
        m_spec_l12In_j21 v160 v161 (m_spec_l12In_l18 a35 a36 a37 k18) false))
    else (
      m_spec_l12In_j11 v161)
def m_spec_l12In (n : Nat) (a35 : gSg) (a36 : List Bool) (a37 : ByteArray) : Option (List Int) :=
  m_spec_l12In_l18 a35 a36 a37 n 0 []
theorem c_spec_l12In (n : Nat) (a35 : gSg) (a36 : List Bool) (a37 : ByteArray) (r : List Int) (h : m_spec_l12In n a35 a36 a37 = some r) : FnP Try.prog 181 [a35.enc, .lst (a36.map B), S a37] [.lst (r.map I)] := by
  unfold m_spec_l12In at h
  refine fn_introJ Try.func181 rfl rfl rfl ?_
  refine .inl ?_
  refine .inl ?_
  refine And.intro (show fits _ _ from trivial) ?_
  refine .inr ⟨List Int, fun x => ([(7, .row 0 1 0 x.length)], [.row 3 1 (x.map I)]), fun x => m_spec_l12In_j11 x = some r, ?_, ?_⟩
  · refine .inl ?_
    refine ⟨Int × List Int, fun x => ([(1, .p (.lst (a36.map B))), (2, .p (S a37)), (3, .ptr 0 0), (7, .row 1 1 0 x.2.length), (8, .p (I x.1))], [.box 65 [.p (I a35.scopes_), .p (.lst (a35.edges_.map gSEdge.enc)), .p (.lst (a35.decls_.map gSpot.enc)), .p (.lst (a35.refs_.map gSpot.enc))], .row 3 1 (x.2.map I)]), fun x k => m_spec_l12In_l18 a35 a36 a37 k x.1 x.2 = some r, ⟨(0, []), n, h, [], ⟨rfl, rfl, rfl, (congrArg (AV.row 1 1 0) (show [].length = 0 by simp)), rfl, trivial⟩, ⟨⟨rfl, rfl, rfl, rfl, rfl, trivial⟩, (congrArg (Bk.row 3 1) (show [].map I = [] by simp)), trivial⟩, rfl⟩, ?_⟩
    rintro ⟨v160, v161⟩ (_ | k18) h
    · exact ns h
    unfold m_spec_l12In_l18 at h
    refine .inl ?_
    refine .inl ?_
    refine And.intro (fun c => ?_) (fun c => ?_)
    · replace h := cT h c
      refine .inr ⟨List Int, fun x => ([(1, .p (.lst (a36.map B))), (2, .p (S a37)), (3, .ptr 0 0), (7, .row 1 1 0 x.length), (8, .p (I v160))], [.box 65 [.p (I a35.scopes_), .p (.lst (a35.edges_.map gSEdge.enc)), .p (.lst (a35.decls_.map gSpot.enc)), .p (.lst (a35.refs_.map gSpot.enc))], .row 3 1 (x.map I)]), fun x => m_spec_l12In_j20 v160 (m_spec_l12In_l18 a35 a36 a37 k18) x = some r, ?_, ?_⟩
      · refine .inr ⟨Bool, fun x => ([(1, .p (.lst (a36.map B))), (2, .p (S a37)), (3, .ptr 0 0), (7, .row 1 1 0 v161.length), (8, .p (I v160)), (35, .p (B x))], [.box 65 [.p (I a35.scopes_), .p (.lst (a35.edges_.map gSEdge.enc)), .p (.lst (a35.decls_.map gSpot.enc)), .p (.lst (a35.refs_.map gSpot.enc))], .row 3 1 (v161.map I)]), fun x => m_spec_l12In_j21 v160 v161 (m_spec_l12In_l18 a35 a36 a37 k18) x = some r, ?_, ?_⟩
        · obtain ⟨x189, hx189, h⟩ := bsm h
          refine And.intro (ix0 hx189) (Exists.intro _ (And.intro (gm (ixg hx189)) (And.intro rfl ?_)))
          obtain ⟨x190, hx190, h⟩ := bsm h
          refine And.intro (ix0 hx190) (Exists.intro _ (And.intro (gm (ixg hx190)) (And.intro rfl ?_)))
          refine And.intro (fun c => ?_) (fun c => ?_)
          · replace h := cT h c
            refine And.intro (fun _ => ?_) (fun c => absurd c (by decide))
            refine And.intro (fun _ => ?_) (fun c => absurd c (by decide))
            refine And.intro (fun _ => ?_) (fun c => absurd c (by decide))
            obtain ⟨x191, hx191, h⟩ := bsm h
            refine And.intro (ix0 hx191) (Exists.intro _ (And.intro (gm (ixg hx191)) (And.intro rfl ?_)))
            refine And.intro (fun _ => ?_) (fun c => absurd c (by decide))
            refine And.intro (fun _ => ?_) (fun c => absurd c (by decide))
            refine And.intro (fun _ => ?_) (fun c => absurd c (by decide))
            refine And.intro (fun _ => ?_) (fun c => absurd c (by decide))
            refine And.intro (fun _ => ?_) (fun c => absurd c (by decide))
            exact ⟨(decide (x191.name_ = a37)), h, [], ⟨rfl, rfl, rfl, rfl, rfl, rfl, trivial⟩, ⟨⟨rfl, rfl, rfl, rfl, rfl, trivial⟩, rfl, trivial⟩, rfl⟩
          · replace h := cF h c
            refine And.intro (fun c => absurd c (by decide)) (fun _ => ?_)
            refine And.intro (fun c => absurd c (by decide)) (fun _ => ?_)
            refine And.intro (fun c => absurd c (by decide)) (fun _ => ?_)
            refine And.intro (fun c => absurd c (by decide)) (fun _ => ?_)
            refine And.intro (fun c => absurd c (by decide)) (fun _ => ?_)
            refine And.intro (fun c => absurd c (by decide)) (fun _ => ?_)
            refine And.intro (fun c => absurd c (by decide)) (fun _ => ?_)
            refine And.intro (fun c => absurd c (by decide)) (fun _ => ?_)
            exact ⟨false, h, [], ⟨rfl, rfl, rfl, rfl, rfl, rfl, trivial⟩, ⟨⟨rfl, rfl, rfl, rfl, rfl, trivial⟩, rfl, trivial⟩, rfl⟩
        · rintro v169 h
          unfold m_spec_l12In_j21 at h
          refine And.intro (fun c => ?_) (fun c => ?_)
          · replace h := cT h c
            refine And.intro (show fits _ _ from ⟨⟨rfl, rfl⟩, trivial⟩) ?_
            obtain ⟨g12, h⟩ := gpT h
            refine Exists.intro ([I v160]) (And.intro (rowN rfl rfl) ?_)
            refine Exists.intro (v161.map I) (And.intro (rowX (rowN rfl (show v161.length = (v161.map I).length by simp)) (show fits _ _ from ⟨⟨rfl, rfl⟩, trivial⟩) (appfitJ (by first | simpa using g12 | (simp at g12 ⊢; omega)) rfl)) ?_)
            exact ⟨(v161 ++ [v160]), h, [], ⟨rfl, rfl, rfl, (congrArg (AV.row 1 1 0) (show (v161 ++ [v160]).length = (v161.length + ([I v160] : List PV).length) by simp)), rfl, trivial⟩, ⟨⟨rfl, rfl, rfl, rfl, rfl, trivial⟩, (congrArg (Bk.row 3 1) (show (v161 ++ [v160]).map I = (v161.map I) ++ [I v160] by simp)), trivial⟩, rfl⟩
          · replace h := cF h c
            exact ⟨v161, h, [], ⟨rfl, rfl, rfl, rfl, rfl, trivial⟩, ⟨⟨rfl, rfl, rfl, rfl, rfl, trivial⟩, rfl, trivial⟩, rfl⟩
      · rintro v168 h
        unfold m_spec_l12In_j20 at h
        exact ⟨((wr .i64 (v160 + 1)), v168), k18, h, Nat.lt_succ_self _, [], ⟨rfl, rfl, rfl, rfl, rfl, trivial⟩, ⟨⟨rfl, rfl, rfl, rfl, rfl, trivial⟩, rfl, trivial⟩, rfl⟩
    · replace h := cF h c
      exact ⟨v161, h, [(999999, 1)], ⟨rfl, trivial⟩, ⟨rfl, trivial⟩, rfl⟩
  · rintro v156 h
    unfold m_spec_l12In_j11 at h
    refine .inl ?_
    refine .inl (Exists.intro _ (And.intro (rowN rfl (show v156.length = (v156.map I).length by simp)) ?_))
    replace h := Option.some.inj h
    subst h
    exact ⟨[.p (.lst (v156.map I))], [], ⟨[], ⟨rfl, trivial⟩, trivial, rfl⟩, rfl, rfl, rfl⟩
def m_spec_l12Behind_j11 (v183 : List Bool) : Option (List Bool) :=
  some v183
def m_spec_l12Behind_j20 (v187 : Int) (rec18 : Int → List Bool → Option (List Bool)) (v195 : List Bool) : Option (List Bool) :=
  rec18 (wr .i64 (v187 + 1)) v195
def m_spec_l12Behind_j21 (a38 : gSg) (v187 : Int) (v188 : List Bool) (rec18 : Int → List Bool → Option (List Bool)) (v196 : Bool) : Option (List Bool) :=
  bif v196 then (
    (ix a38.edges_ v187).bind fun x283 =>
    (ix v188 x283.to_).bind fun x284 =>
    m_spec_l12Behind_j20 v187 rec18 (v188.set x283.to_.toNat true))
  else (
    m_spec_l12Behind_j20 v187 rec18 v188)
def m_spec_l12Behind_l18 (a38 : gSg) (a39 : List Bool) (a40 : Int) : Nat → Int → List Bool → Option (List Bool)
  | 0, _, _ => none
  | k18 + 1, v187, v188 =>
    bif (decide (v187 < ((a38.edges_.map gSEdge.enc).length : Int))) then (
      (ix a38.edges_ v187).bind fun x285 =>
      bif (x285.kind_ == a40) then (
        (ix a38.edges_ v187).bind fun x286 =>
        (ix a39 x286.from_).bind fun x287 =>
        m_spec_l12Behind_j21 a38 v187 v188 (m_spec_l12Behind_l18 a38 a39 a40 k18) x287)
      else (
        m_spec_l12Behind_j21 a38 v187 v188 (m_spec_l12Behind_l18 a38 a39 a40 k18) false))
    else (
      m_spec_l12Behind_j11 v188)
def m_spec_l12Behind (n : Nat) (a38 : gSg) (a39 : List Bool) (a40 : Int) : Option (List Bool) :=
  gp (0 ≤ a38.scopes_ ∧ a38.scopes_ ≤ a38.scopes_ ∧ a38.scopes_ ≤ 68719476736) <|
  m_spec_l12Behind_l18 a38 a39 a40 n 0 (List.replicate a38.scopes_.toNat false)
theorem c_spec_l12Behind (n : Nat) (a38 : gSg) (a39 : List Bool) (a40 : Int) (r : List Bool) (h : m_spec_l12Behind n a38 a39 a40 = some r) : Sy.Fn Try.prog 182 [.p (a38.enc), .p (.lst (a39.map B)), .p (I a40)] [] (fun rs τ' => rs = [.row 0 1 0 r.length] ∧ τ' = [.row 4 1 (r.map B)]) := by
  unfold m_spec_l12Behind at h
  refine fn_introJ Try.func182 rfl rfl rfl ?_
  refine .inl ?_
  refine .inl ?_
  obtain ⟨g1, h⟩ := gpT h
  refine And.intro ⟨rfl, g1.1, g1.2.1, mkfit g1.2.2 rfl, by omega⟩ ?_
  refine .inr ⟨List Bool, fun x => ([(7, .row 0 1 0 x.length)], [.row 4 1 (x.map B)]), fun x => m_spec_l12Behind_j11 x = some r, ?_, ?_⟩
  · refine .inl ?_
    refine ⟨Int × List Bool, fun x => ([(1, .p (.lst (a39.map B))), (2, .p (I a40)), (3, .ptr 0 0), (7, .row 1 1 0 x.2.length), (8, .p (I x.1))], [.box 65 [.p (I a38.scopes_), .p (.lst (a38.edges_.map gSEdge.enc)), .p (.lst (a38.decls_.map gSpot.enc)), .p (.lst (a38.refs_.map gSpot.enc))], .row 4 1 (x.2.map B)]), fun x k => m_spec_l12Behind_l18 a38 a39 a40 k x.1 x.2 = some r, ⟨(0, (List.replicate a38.scopes_.toNat false)), n, h, [], ⟨rfl, rfl, rfl, (congrArg (AV.row 1 1 0) (show (List.replicate a38.scopes_.toNat false).length = a38.scopes_.toNat by simp)), rfl, trivial⟩, ⟨⟨rfl, rfl, rfl, rfl, rfl, trivial⟩, (congrArg (Bk.row 4 1) (show (List.replicate a38.scopes_.toNat false).map B = List.replicate a38.scopes_.toNat (B false) by simp)), trivial⟩, rfl⟩, ?_⟩
    rintro ⟨v187, v188⟩ (_ | k18) h
    · exact ns h
    unfold m_spec_l12Behind_l18 at h
    refine .inl ?_
    refine .inl ?_
    refine And.intro (fun c => ?_) (fun c => ?_)
    · replace h := cT h c
      refine .inr ⟨List Bool, fun x => ([(1, .p (.lst (a39.map B))), (2, .p (I a40)), (3, .ptr 0 0), (7, .row 1 1 0 x.length), (8, .p (I v187))], [.box 65 [.p (I a38.scopes_), .p (.lst (a38.edges_.map gSEdge.enc)), .p (.lst (a38.decls_.map gSpot.enc)), .p (.lst (a38.refs_.map gSpot.enc))], .row 4 1 (x.map B)]), fun x => m_spec_l12Behind_j20 v187 (m_spec_l12Behind_l18 a38 a39 a40 k18) x = some r, ?_, ?_⟩
      · refine .inr ⟨Bool, fun x => ([(1, .p (.lst (a39.map B))), (2, .p (I a40)), (3, .ptr 0 0), (7, .row 1 1 0 v188.length), (8, .p (I v187)), (37, .p (B x))], [.box 65 [.p (I a38.scopes_), .p (.lst (a38.edges_.map gSEdge.enc)), .p (.lst (a38.decls_.map gSpot.enc)), .p (.lst (a38.refs_.map gSpot.enc))], .row 4 1 (v188.map B)]), fun x => m_spec_l12Behind_j21 a38 v187 v188 (m_spec_l12Behind_l18 a38 a39 a40 k18) x = some r, ?_, ?_⟩
        · obtain ⟨x285, hx285, h⟩ := bsm h
          refine And.intro (ix0 hx285) (Exists.intro _ (And.intro (gm (ixg hx285)) (And.intro rfl ?_)))
          refine And.intro (fun c => ?_) (fun c => ?_)
          · replace h := cT h c
            refine And.intro (fun _ => ?_) (fun c => absurd c (by decide))
            refine And.intro (fun _ => ?_) (fun c => absurd c (by decide))
            refine And.intro (fun _ => ?_) (fun c => absurd c (by decide))
            refine And.intro (fun _ => ?_) (fun c => absurd c (by decide))
            obtain ⟨x286, hx286, h⟩ := bsm h
            refine And.intro (ix0 hx286) (Exists.intro _ (And.intro (gm (ixg hx286)) (And.intro rfl ?_)))
            refine And.intro (fun _ => ?_) (fun c => absurd c (by decide))
            refine And.intro (fun _ => ?_) (fun c => absurd c (by decide))
            refine And.intro (fun _ => ?_) (fun c => absurd c (by decide))
            obtain ⟨x287, hx287, h⟩ := bsm h
            refine And.intro (ix0 hx287) (Exists.intro _ (And.intro (gm (ixg hx287)) (And.intro rfl ?_)))
            refine And.intro (fun _ => ?_) (fun c => absurd c (by decide))
            refine And.intro (fun _ => ?_) (fun c => absurd c (by decide))
            exact ⟨x287, h, [], ⟨rfl, rfl, rfl, rfl, rfl, rfl, trivial⟩, ⟨⟨rfl, rfl, rfl, rfl, rfl, trivial⟩, rfl, trivial⟩, rfl⟩
          · replace h := cF h c
            refine And.intro (fun c => absurd c (by decide)) (fun _ => ?_)
            refine And.intro (fun c => absurd c (by decide)) (fun _ => ?_)
            refine And.intro (fun c => absurd c (by decide)) (fun _ => ?_)
            refine And.intro (fun c => absurd c (by decide)) (fun _ => ?_)
            refine And.intro (fun c => absurd c (by decide)) (fun _ => ?_)
            refine And.intro (fun c => absurd c (by decide)) (fun _ => ?_)
            refine And.intro (fun c => absurd c (by decide)) (fun _ => ?_)
            refine And.intro (fun c => absurd c (by decide)) (fun _ => ?_)
            refine And.intro (fun c => absurd c (by decide)) (fun _ => ?_)
            exact ⟨false, h, [], ⟨rfl, rfl, rfl, rfl, rfl, rfl, trivial⟩, ⟨⟨rfl, rfl, rfl, rfl, rfl, trivial⟩, rfl, trivial⟩, rfl⟩
        · rintro v196 h
          unfold m_spec_l12Behind_j21 at h
          refine And.intro (fun c => ?_) (fun c => ?_)
          · replace h := cT h c
            obtain ⟨x283, hx283, h⟩ := bsm h
            refine And.intro (ix0 hx283) (Exists.intro _ (And.intro (gm (ixg hx283)) (And.intro rfl ?_)))
            obtain ⟨x284, hx284, h⟩ := bsm h
            refine And.intro (ixr hx284) ?_
            refine And.intro ⟨(by have q := ixl hx284; simp at q ⊢; omega), ⟨rfl, rfl⟩, rfl⟩ ?_
            exact ⟨(v188.set x283.to_.toNat true), h, [], ⟨rfl, rfl, rfl, (congrArg (AV.row 1 1 0) (show (v188.set x283.to_.toNat true).length = v188.length by simp)), rfl, trivial⟩, ⟨⟨rfl, rfl, rfl, rfl, rfl, trivial⟩, (congrArg (Bk.row 4 1) (show (v188.set x283.to_.toNat true).map B = (v188.map B).set (0 + x283.to_.toNat) (B true) by simp)), trivial⟩, rfl⟩
          · replace h := cF h c
            exact ⟨v188, h, [], ⟨rfl, rfl, rfl, rfl, rfl, trivial⟩, ⟨⟨rfl, rfl, rfl, rfl, rfl, trivial⟩, rfl, trivial⟩, rfl⟩
      · rintro v195 h
        unfold m_spec_l12Behind_j20 at h
        exact ⟨((wr .i64 (v187 + 1)), v195), k18, h, Nat.lt_succ_self _, [], ⟨rfl, rfl, rfl, rfl, rfl, trivial⟩, ⟨⟨rfl, rfl, rfl, rfl, rfl, trivial⟩, rfl, trivial⟩, rfl⟩
    · replace h := cF h c
      exact ⟨v188, h, [(999999, 1)], ⟨rfl, trivial⟩, ⟨rfl, trivial⟩, rfl⟩
  · rintro v183 h
    unfold m_spec_l12Behind_j11 at h
    refine .inl ?_
    refine .inr ?_
    replace h := Option.some.inj h
    subst h
    exact ⟨[.row 0 1 0 v183.length], [.row 4 1 (v183.map B)], ⟨[], ⟨rfl, trivial⟩, ⟨rfl, trivial⟩, rfl⟩, rfl, rfl, rfl⟩
def m_spec_l12Resolve_j8 : Option (List Int) :=
  some []
def m_spec_l12Resolve_j15 (n : Nat) (a41 : gSg) (v209 : Int) (v210 : List Bool) (rec13 : Int → List Bool → Option (List Int)) (v216 : List Int) : Option (List Int) :=
  bif (decide (((v216.map I).length : Int) > 0)) then (
    some v216)
  else (
    (m_spec_l12Behind n a41 v210 1).bind fun r518 =>
    rec13 (wr .i64 (v209 + 1)) r518)
def m_spec_l12Resolve_l13 (n : Nat) (a41 : gSg) (a42 : gSpot) : Nat → Int → List Bool → Option (List Int)
  | 0, _, _ => none
  | k13 + 1, v209, v210 =>
    bif (decide (v209 ≤ a41.scopes_)) then (
      (m_spec_l12In n a41 v210 a42.name_).bind fun r513 =>
      bif (((r513.map I).length : Int) == 0) then (
        (m_spec_l12Behind n a41 v210 2).bind fun r521 =>
        (m_spec_l12In n a41 r521 a42.name_).bind fun r522 =>
        m_spec_l12Resolve_j15 n a41 v209 v210 (m_spec_l12Resolve_l13 n a41 a42 k13) r522)
      else (
        m_spec_l12Resolve_j15 n a41 v209 v210 (m_spec_l12Resolve_l13 n a41 a42 k13) r513))
    else (
      m_spec_l12Resolve_j8)
def m_spec_l12Resolve (n : Nat) (a41 : gSg) (a42 : gSpot) : Option (List Int) :=
  gp (0 ≤ a41.scopes_ ∧ a41.scopes_ ≤ a41.scopes_ ∧ a41.scopes_ ≤ 68719476736) <|
  (ix (List.replicate a41.scopes_.toNat false) a42.scope_).bind fun x288 =>
  m_spec_l12Resolve_l13 n a41 a42 n 0 ((List.replicate a41.scopes_.toNat false).set a42.scope_.toNat true)
theorem c_spec_l12Resolve (n : Nat) (a41 : gSg) (a42 : gSpot) (r : List Int) (h : m_spec_l12Resolve n a41 a42 = some r) : FnP Try.prog 102 [a41.enc, a42.enc] [.lst (r.map I)] := by
  unfold m_spec_l12Resolve at h
  refine fn_introJ Try.func102 rfl rfl rfl ?_
  refine .inl ?_
  refine .inl ?_
  obtain ⟨g1, h⟩ := gpT h
  refine And.intro ⟨rfl, g1.1, g1.2.1, mkfit g1.2.2 rfl, by omega⟩ ?_
  refine .inl ?_
  obtain ⟨x288, hx288, h⟩ := bsm h
  refine And.intro (by have q := ixr hx288; simp at q ⊢; omega) ?_
  refine And.intro ⟨(by have q := ixl hx288; simp at q ⊢; omega), ⟨rfl, rfl⟩, rfl⟩ ?_
  refine .inr ⟨Unit, fun x => ([], []), fun x => m_spec_l12Resolve_j8 = some r, ?_, ?_⟩
  · refine .inl ?_
    refine ⟨Int × List Bool, fun x => ([(2, .ptr 0 0), (3, .ptr 1 0), (5, .row 2 1 0 x.2.length), (6, .p (I x.1))], [.box 65 [.p (I a41.scopes_), .p (.lst (a41.edges_.map gSEdge.enc)), .p (.lst (a41.decls_.map gSpot.enc)), .p (.lst (a41.refs_.map gSpot.enc))], .box 71 [.p (I a42.scope_), .p (S a42.name_)], .row 4 1 (x.2.map B)]), fun x k => m_spec_l12Resolve_l13 n a41 a42 k x.1 x.2 = some r, ⟨(0, ((List.replicate a41.scopes_.toNat false).set a42.scope_.toNat true)), n, h, [], ⟨rfl, rfl, (congrArg (AV.row 2 1 0) (show ((List.replicate a41.scopes_.toNat false).set a42.scope_.toNat true).length = a41.scopes_.toNat by simp)), rfl, trivial⟩, ⟨⟨rfl, rfl, rfl, rfl, rfl, trivial⟩, ⟨rfl, rfl, rfl, trivial⟩, (congrArg (Bk.row 4 1) (show ((List.replicate a41.scopes_.toNat false).set a42.scope_.toNat true).map B = (List.replicate a41.scopes_.toNat (B false)).set (0 + a42.scope_.toNat) (B true) by simp)), trivial⟩, rfl⟩, ?_⟩
    rintro ⟨v209, v210⟩ (_ | k13) h
    · exact ns h
    unfold m_spec_l12Resolve_l13 at h
    refine .inl ?_
    refine .inl ?_
    refine And.intro (fun c => ?_) (fun c => ?_)
    · replace h := cT h c
      refine .inl ?_
      refine .inl ?_
      obtain ⟨r513, hr513, h⟩ := bsm h
      refine callP (c_spec_l12In n a41 v210 a42.name_ _ hr513) (fun K hk => Exists.intro _ (And.intro (rowN rfl (show v210.length = (v210.map B).length by simp)) hk)) ?_
      refine .inr ⟨List Int, fun x => ([(2, .ptr 0 0), (3, .ptr 1 0), (5, .row 2 1 0 v210.length), (6, .p (I v209)), (7, .p (.lst (x.map I)))], [.box 65 [.p (I a41.scopes_), .p (.lst (a41.edges_.map gSEdge.enc)), .p (.lst (a41.decls_.map gSpot.enc)), .p (.lst (a41.refs_.map gSpot.enc))], .box 71 [.p (I a42.scope_), .p (S a42.name_)], .fz 4 1 (v210.map B)]), fun x => m_spec_l12Resolve_j15 n a41 v209 v210 (m_spec_l12Resolve_l13 n a41 a42 k13) x = some r, ?_, ?_⟩
      · refine .inl ?_
        refine And.intro (fun c => ?_) (fun c => ?_)
        · replace h := cT h c
          refine ⟨[0, 1, 2, 4, 5, 3, 6, 7], [], by decide +kernel, ?_⟩
          obtain ⟨r521, hr521, h⟩ := bsm h
          refine callW (args' := [.p (a41.enc), .p (.lst (v210.map B)), .p (I 2)]) (τ0 := []) [] [] (c_spec_l12Behind n a41 v210 2 _ hr521) (fun K hk => Or.inl (Exists.intro _ (And.intro (rowN rfl (show v210.length = (v210.map B).length by simp)) hk))) rfl ⟨rfl, (congrArg (fun z => AV.p (.lst z)) (show v210.map B = v210.map B by simp)), rfl, trivial⟩ trivial rfl ?_
          rintro rs τ' hl' ⟨rfl, rfl⟩
          obtain ⟨r522, hr522, h⟩ := bsm h
          refine callP (c_spec_l12In n a41 r521 a42.name_ _ hr522) (fun K hk => Exists.intro _ (And.intro (rowN rfl (show r521.length = (r521.map B).length by simp)) hk)) ?_
          exact ⟨r522, h, [], ⟨rfl, rfl, rfl, rfl, rfl, trivial⟩, ⟨⟨rfl, rfl, rfl, rfl, rfl, trivial⟩, ⟨rfl, rfl, rfl, trivial⟩, rfl, trivial⟩, rfl⟩
        · replace h := cF h c
          exact ⟨r513, h, [], ⟨rfl, rfl, rfl, rfl, rfl, trivial⟩, ⟨⟨rfl, rfl, rfl, rfl, rfl, trivial⟩, ⟨rfl, rfl, rfl, trivial⟩, rfl, trivial⟩, rfl⟩
      · rintro v216 h
        unfold m_spec_l12Resolve_j15 at h
        refine .inl ?_
        refine .inl ?_
        refine And.intro (fun c => ?_) (fun c => ?_)
        · replace h := cT h c
          refine .inl ?_
          replace h := Option.some.inj h
          subst h
          exact ⟨[.p (.lst (v216.map I))], [], ⟨[], ⟨rfl, trivial⟩, trivial, rfl⟩, rfl, rfl, rfl⟩
        · replace h := cF h c
          obtain ⟨r518, hr518, h⟩ := bsm h
          refine callW (args' := [.p (a41.enc), .p (.lst (v210.map B)), .p (I 1)]) (τ0 := []) [] [] (c_spec_l12Behind n a41 v210 1 _ hr518) (fun K hk => Or.inl (Exists.intro _ (And.intro (rowN rfl (show v210.length = (v210.map B).length by simp)) hk))) rfl ⟨rfl, (congrArg (fun z => AV.p (.lst z)) (show v210.map B = v210.map B by simp)), rfl, trivial⟩ trivial rfl ?_
          rintro rs τ' hl' ⟨rfl, rfl⟩
          exact ⟨((wr .i64 (v209 + 1)), r518), k13, h, Nat.lt_succ_self _, [(999999, 0), (999999, 1), (999999, 3)], ⟨rfl, rfl, rfl, rfl, trivial⟩, ⟨⟨rfl, rfl, rfl, rfl, rfl, trivial⟩, ⟨rfl, rfl, rfl, trivial⟩, rfl, trivial⟩, rfl⟩
    · replace h := cF h c
      exact ⟨(), h, [], trivial, trivial, rfl⟩
  · rintro _ h
    unfold m_spec_l12Resolve_j8 at h
    refine .inl ?_
    refine And.intro (show fits _ _ from trivial) ?_
    refine .inl (Exists.intro _ (And.intro (rowN (show [] = [].map I by simp) (show 0 = ([].map I).length by simp)) ?_))
    replace h := Option.some.inj h
    subst h
    exact ⟨[.p (.lst ([].map I))], [], ⟨[], ⟨rfl, trivial⟩, trivial, rfl⟩, rfl, rfl, rfl⟩
def m_spec_l12Has_j2 : Option Bool :=
  some false
def m_spec_l12Has_l3 (a43 : List Int) (a44 : Int) : Nat → Int → Option Bool
  | 0, _ => none
  | k3 + 1, v219 =>
    bif (decide (v219 < ((a43.map I).length : Int))) then (
      (ix a43 v219).bind fun x294 =>
      bif (x294 == a44) then (
        some true)
      else (
        (m_spec_l12Has_l3 a43 a44 k3) (wr .i64 (v219 + 1))))
    else (
      m_spec_l12Has_j2)
def m_spec_l12Has (n : Nat) (a43 : List Int) (a44 : Int) : Option Bool :=
  m_spec_l12Has_l3 a43 a44 n 0
theorem c_spec_l12Has (n : Nat) (a43 : List Int) (a44 : Int) (r : Bool) (h : m_spec_l12Has n a43 a44 = some r) : FnP Try.prog 103 [.lst (a43.map I), I a44] [B r] := by
  unfold m_spec_l12Has at h
  refine fn_introJ Try.func103 rfl rfl rfl ?_
  refine .inl ?_
  refine .inr ⟨Unit, fun x => ([], []), fun x => m_spec_l12Has_j2 = some r, ?_, ?_⟩
  · refine .inl ?_
    refine ⟨Int, fun x => ([(0, .p (.lst (a43.map I))), (1, .p (I a44)), (5, .p (I x))], []), fun x k => m_spec_l12Has_l3 a43 a44 k x = some r, ⟨0, n, h, [], ⟨rfl, rfl, rfl, trivial⟩, trivial, rfl⟩, ?_⟩
    rintro v219 (_ | k3) h
    · exact ns h
    unfold m_spec_l12Has_l3 at h
    refine .inl ?_
    refine .inl ?_
    refine And.intro (fun c => ?_) (fun c => ?_)
    · replace h := cT h c
      refine .inl ?_
      refine .inl ?_
      obtain ⟨x294, hx294, h⟩ := bsm h
      refine And.intro (ix0 hx294) (Exists.intro _ (And.intro (gm (ixg hx294)) (And.intro rfl ?_)))
      refine And.intro (fun c => ?_) (fun c => ?_)
      · replace h := cT h c
        refine .inl ?_
        replace h := Option.some.inj h
        subst h
        exact ⟨[.p (B true)], [], ⟨[], ⟨rfl, trivial⟩, trivial, rfl⟩, rfl, rfl, rfl⟩
      · replace h := cF h c
        exact ⟨(wr .i64 (v219 + 1)), k3, h, Nat.lt_succ_self _, [], ⟨rfl, rfl, rfl, trivial⟩, trivial, rfl⟩
    · replace h := cF h c
      exact ⟨(), h, [], trivial, trivial, rfl⟩
  · rintro _ h
    unfold m_spec_l12Has_j2 at h
    refine .inl ?_
    replace h := Option.some.inj h
    subst h
    exact ⟨[.p (B false)], [], ⟨[], ⟨rfl, trivial⟩, trivial, rfl⟩, rfl, rfl, rfl⟩
def m_spec_l05SameInts_j2 : Option Bool :=
  some true
def m_spec_l05SameInts_l3 (a45 : List Int) (a46 : List Int) : Nat → Int → Option Bool
  | 0, _ => none
  | k3 + 1, v223 =>
    bif (decide (v223 < ((a45.map I).length : Int))) then (
      (ix a45 v223).bind fun x317 =>
      (ix a46 v223).bind fun x318 =>
      bif (x317 != x318) then (
        some false)
      else (
        (m_spec_l05SameInts_l3 a45 a46 k3) (wr .i64 (v223 + 1))))
    else (
      m_spec_l05SameInts_j2)
def m_spec_l05SameInts (n : Nat) (a45 : List Int) (a46 : List Int) : Option Bool :=
  bif (((a45.map I).length : Int) != ((a46.map I).length : Int)) then (
    some false)
  else (
    m_spec_l05SameInts_l3 a45 a46 n 0)
theorem c_spec_l05SameInts (n : Nat) (a45 : List Int) (a46 : List Int) (r : Bool) (h : m_spec_l05SameInts n a45 a46 = some r) : FnP Try.prog 104 [.lst (a45.map I), .lst (a46.map I)] [B r] := by
  unfold m_spec_l05SameInts at h
  refine fn_introJ Try.func104 rfl rfl rfl ?_
  refine .inl ?_
  refine .inl ?_
  refine .inl ?_
  refine And.intro (fun c => ?_) (fun c => ?_)
  · replace h := cT h c
    refine .inl ?_
    replace h := Option.some.inj h
    subst h
    exact ⟨[.p (B false)], [], ⟨[], ⟨rfl, trivial⟩, trivial, rfl⟩, rfl, rfl, rfl⟩
  · replace h := cF h c
    refine .inr ⟨Unit, fun x => ([], []), fun x => m_spec_l05SameInts_j2 = some r, ?_, ?_⟩
    · refine .inl ?_
      refine ⟨Int, fun x => ([(0, .p (.lst (a45.map I))), (1, .p (.lst (a46.map I))), (5, .p (I x))], []), fun x k => m_spec_l05SameInts_l3 a45 a46 k x = some r, ⟨0, n, h, [], ⟨rfl, rfl, rfl, trivial⟩, trivial, rfl⟩, ?_⟩
      rintro v223 (_ | k3) h
      · exact ns h
      unfold m_spec_l05SameInts_l3 at h
      refine .inl ?_
      refine .inl ?_
      refine And.intro (fun c => ?_) (fun c => ?_)
      · replace h := cT h c
        refine .inl ?_
        refine .inl ?_
        refine ⟨[0, 1, 2, 3, 4, 5, 6, 7, 8], [], by decide +kernel, ?_⟩
        obtain ⟨x317, hx317, h⟩ := bsm h
        refine And.intro (ix0 hx317) (Exists.intro _ (And.intro (gm (ixg hx317)) (And.intro rfl ?_)))
        obtain ⟨x318, hx318, h⟩ := bsm h
        refine And.intro (ix0 hx318) (Exists.intro _ (And.intro (gm (ixg hx318)) (And.intro rfl ?_)))
        refine And.intro (fun c => ?_) (fun c => ?_)
        · replace h := cT h c
          refine .inl ?_
          replace h := Option.some.inj h
          subst h
          exact ⟨[.p (B false)], [], ⟨[], ⟨rfl, trivial⟩, trivial, rfl⟩, rfl, rfl, rfl⟩
        · replace h := cF h c
          exact ⟨(wr .i64 (v223 + 1)), k3, h, Nat.lt_succ_self _, [], ⟨rfl, rfl, rfl, trivial⟩, trivial, rfl⟩
      · replace h := cF h c
        exact ⟨(), h, [], trivial, trivial, rfl⟩
    · rintro _ h
      unfold m_spec_l05SameInts_j2 at h
      refine .inl ?_
      replace h := Option.some.inj h
      subst h
      exact ⟨[.p (B true)], [], ⟨[], ⟨rfl, trivial⟩, trivial, rfl⟩, rfl, rfl, rfl⟩
def m_spec_Rename_j10 (a47 : gSg) (a48 : Int) (a49 : ByteArray) (x321 : gSpot) (v234 : List gSpot) : Option (gSg × Int) :=
  some ((gSg.mk a47.scopes_ a47.edges_ (a47.decls_.set a48.toNat (gSpot.mk x321.scope_ a49)) v234), 0)
def m_spec_Rename_l11 (n : Nat) (a47 : gSg) (a48 : Int) (a49 : ByteArray) (x321 : gSpot) (v234 : List gSpot) : Nat → Int → Option (gSg × Int)
  | 0, _ => none
  | k11 + 1, v237 =>
    bif (decide (v237 < ((a47.refs_.map gSpot.enc).length : Int))) then (
      (ix a47.refs_ v237).bind fun x381 =>
      (ix v234 v237).bind fun x382 =>
      (m_spec_l12Resolve n a47 x381).bind fun r581 =>
      (m_spec_l12Resolve n (gSg.mk a47.scopes_ a47.edges_ (a47.decls_.set a48.toNat (gSpot.mk x321.scope_ a49)) v234) x382).bind fun r582 =>
      (m_spec_l05SameInts n r581 r582).bind fun r583 =>
      bif (!r583) then (
        some ((gSg.mk 0 [] [] []), 12))
      else (
        (m_spec_Rename_l11 n a47 a48 a49 x321 v234 k11) (wr .i64 (v237 + 1))))
    else (
      m_spec_Rename_j10 a47 a48 a49 x321 v234)
def m_spec_Rename_j8 (n : Nat) (a47 : gSg) (a48 : Int) (a49 : ByteArray) (x321 : gSpot) (v234 : List gSpot) : Option (gSg × Int) :=
  m_spec_Rename_l11 n a47 a48 a49 x321 v234 n 0
def m_spec_Rename_j15 (v240 : Int) (rec14 : Int → List gSpot → Option (gSg × Int)) (v245 : List gSpot) : Option (gSg × Int) :=
  rec14 (wr .i64 (v240 + 1)) v245
def m_spec_Rename_l14 (n : Nat) (a47 : gSg) (a48 : Int) (a49 : ByteArray) (x321 : gSpot) : Nat → Int → List gSpot → Option (gSg × Int)
  | 0, _, _ => none
  | k14 + 1, v240, v241 =>
    bif (decide (v240 < ((a47.refs_.map gSpot.enc).length : Int))) then (
      (ix a47.refs_ v240).bind fun x414 =>
      (m_spec_l12Resolve n a47 x414).bind fun r600 =>
      (m_spec_l12Has n r600 a48).bind fun r601 =>
      bif (!r601) then (
        m_spec_Rename_j15 v240 (m_spec_Rename_l14 n a47 a48 a49 x321 k14) v241)
      else (
        bif (decide (((r600.map I).length : Int) > 1)) then (
          some ((gSg.mk 0 [] [] []), 5))
        else (
          (ix a47.refs_ v240).bind fun x417 =>
          (ix v241 v240).bind fun x418 =>
          m_spec_Rename_j15 v240 (m_spec_Rename_l14 n a47 a48 a49 x321 k14) (v241.set v240.toNat (gSpot.mk x417.scope_ a49)))))
    else (
      m_spec_Rename_j8 n a47 a48 a49 x321 v241)
def m_spec_Rename_j3 (n : Nat) (a47 : gSg) (a48 : Int) (a49 : ByteArray) : Option (gSg × Int) :=
  (ix a47.decls_ a48).bind fun x321 =>
  (ix a47.decls_ a48).bind fun x322 =>
  m_spec_Rename_l14 n a47 a48 a49 x321 n 0 a47.refs_
def m_spec_Rename_j2 (n : Nat) (a47 : gSg) (a48 : Int) (a49 : ByteArray) (v226 : Bool) : Option (gSg × Int) :=
  bif v226 then (
    some ((gSg.mk 0 [] [] []), 1))
  else (
    (m_spec_l01Between n a48 0 (wr .i64 (((a47.decls_.map gSpot.enc).length : Int) - 1))).bind fun r529 =>
    bif (!r529) then (
      some ((gSg.mk 0 [] [] []), 4))
    else (
      gp (([] : List gSEdge).length + a47.edges_.length ≤ 68719476736) <|
      gp (([] : List gSpot).length + a47.decls_.length ≤ 68719476736) <|
      gp (([] : List gSpot).length + a47.refs_.length ≤ 68719476736) <|
      m_spec_Rename_j3 n a47 a48 a49))
def m_spec_Rename (n : Nat) (a47 : gSg) (a48 : Int) (a49 : ByteArray) : Option (gSg × Int) :=
  (m_spec_SgOK n a47).bind fun r602 =>
  bif (!r602) then (
    m_spec_Rename_j2 n a47 a48 a49 true)
  else (
    (m_spec_l01Name n a49).bind fun r603 =>
    m_spec_Rename_j2 n a47 a48 a49 (!r603))
end Go.Proofs.Ytegpjjnedbbpjaa.Z
