/- The program's ProgramShow. -/
import Derived.Test.YtnnalcglfgapbaaDoorGvF
set_option linter.unusedVariables false
set_option linter.unusedSimpArgs false
namespace Go.Proofs.YtnnalcglfgapbaaDoor.Z
open Go Go.RowKit Go.Proofs.Sy Go.Proofs
set_option maxRecDepth 100000
attribute [simp] bytesL_bl
@[simp] theorem dsz (s : ByteArray) : s.data.size = s.size := rfl
def psN (n : Nat) (x : gIns) (l : List UInt8) : Option (List UInt8) := (m_impl_hasN n x.op_).bind fun b => bif b then (m_impl_itoa n x.n_).bind fun s =>
  gp (((1 + s.size : Nat) : Int) ≤ 9223372036854775807 ∧ l.length + ((⟨#[32]⟩ : ByteArray) ++ s).size ≤ 10000000000000) <| some (l ++ ((⟨#[32]⟩ : ByteArray) ++ s).data.toList) else some l
def psT (n : Nat) (x : gIns) (l : List UInt8) : Option (List UInt8) := (m_impl_jumps n x.op_).bind fun b => bif b then (m_impl_itoa n x.to_).bind fun s =>
  gp (((1 + s.size : Nat) : Int) ≤ 9223372036854775807 ∧ l.length + ((⟨#[32]⟩ : ByteArray) ++ s).size ≤ 10000000000000) <| some (l ++ ((⟨#[32]⟩ : ByteArray) ++ s).data.toList) else some l
def psLoop (n : Nat) (p : List gIns) : Nat → Int → List UInt8 → Option (List UInt8)
  | 0, _, _ => none
  | k + 1, i, l => bif decide (i < ((p.map gIns.enc).length : Int)) then (ix p i).bind fun x => (m_impl_insWords n).bind fun ws => (ix ws x.op_).bind fun wd => gp (l.length + wd.size ≤ 10000000000000) <|
      (psN n x (l ++ wd.data.toList)).bind fun l2 => (psT n x l2).bind fun l3 => gp (l3.length ≤ 10000000000000) <| psLoop n p k (wr .i64 (i + 1)) (l3 ++ [10])
    else some l
def m_impl_ProgramShow (n : Nat) (p : List gIns) : Option (ByteArray × Int) := (m_impl_ProgramOK n p).bind fun b => bif !b then some (⟨#[]⟩, 1)
  else (psLoop n p n 0 []).bind fun l => gp (l ≠ [] ∧ l.length ≤ 10000000000000) <| bif decide ((l.length : Int) > 400000) then some (⟨#[]⟩, 3) else some (⟨l.toArray⟩, 0)
def bX (u : Bool) (l : List UInt8) : Sto := [.box 43 [bif u then .ptr 0 0 else .p (.bx none), .row 1 1 0 l.length], .row 5 1 (bl l)]
theorem c_impl_ProgramShow (n : Nat) (p : List gIns) (r : ByteArray × Int) (h : m_impl_ProgramShow n p = some r) : FnP Tryd.prog 8 [.lst (p.map gIns.enc)] [S r.1, I r.2] := by
  unfold m_impl_ProgramShow at h
  refine fn_introJ Tryd.func8 rfl rfl rfl ?_
  refine .inl ?_
  refine .inl ?_
  refine .inl ?_
  obtain ⟨b, hb, h⟩ := bsm h
  refine callA (c_impl_ProgramOK n p _ hb) ?_
  refine And.intro (fun c => ?_) (fun c => ?_)
  · replace h := cT h c
    replace h := Option.some.inj h
    subst h
    refine .inl ?_
    exact ⟨[.p (S ⟨#[]⟩), .p (I 1)], [], ⟨[], ⟨rfl, rfl, trivial⟩, trivial, rfl⟩, rfl, rfl, rfl⟩
  · replace h := cF h c
    obtain ⟨l9, h9, h⟩ := bsm h
    refine .inl ?_
    refine .inl ?_
    refine .inl ?_
    refine ⟨Bool × Int × List UInt8, fun x => ([(4, .ptr 0 0), (10, .p (.lst (p.map gIns.enc))), (11, .p (I ((p.map gIns.enc).length : Int))), (12, .p (I x.2.1))], bX x.1 x.2.2), fun x k => (x.1 = false → x.2.2 = []) ∧ psLoop n p k x.2.1 x.2.2 = some l9, ⟨(false, 0, []), n, ⟨fun _ => rfl, h9⟩, [(5, 1)], ⟨rfl, rfl, rfl, rfl, trivial⟩, ⟨⟨rfl, rfl, ⟨rfl, rfl⟩, trivial⟩, rfl, trivial⟩, rfl⟩, ?_⟩
    rintro ⟨u, i, l⟩ (_ | k) ⟨hu, h9⟩
    · exact ns h9
    unfold psLoop at h9
    cases u with
    | false =>
      obtain rfl := hu rfl
      refine .inl ?_
      refine .inl ?_
      refine And.intro (fun c => ?_) (fun c => ?_)
      · replace h9 := cT h9 c
        refine .inl ?_
        refine .inl ?_
        obtain ⟨x, hx, h9⟩ := bsm h9
        refine And.intro (ix0 hx) (Exists.intro _ (And.intro (gm (ixg hx)) (And.intro rfl ?_)))
        refine .inl ?_
        obtain ⟨ws, hws, h9⟩ := bsm h9
        obtain ⟨wd, hwd, h9⟩ := bsm h9
        obtain ⟨hle, h9⟩ := gpT h9
        obtain ⟨l2, hl2, h9⟩ := bsm h9
        obtain ⟨l3, hl3, h9⟩ := bsm h9
        obtain ⟨hle3, h9⟩ := gpT h9
        refine ⟨[1, 2, 0, 3, 4, 5], [0, 1], by decide +kernel, ?_⟩
        refine callA (c_impl_insWords n _ hws) ?_
        refine And.intro (ix0 hwd) (Exists.intro _ (And.intro (gm (ixg hwd)) (And.intro rfl ?_)))
        refine callG [0, 1] (sStrN wd (by simpa using hle)) rfl (fun K hk => hk) ?_
        rintro rs τ' hl' ⟨rfl, rfl⟩
        refine .inr ⟨List UInt8, fun l => ([(4, .ptr 0 0), (10, .p (.lst (p.map gIns.enc))), (11, .p (I ((p.map gIns.enc).length : Int))), (12, .p (I i)), (6, .ptr 2 0)], bX true l ++ [.box 38 [.p (I x.op_), .p (I x.n_), .p (I x.to_)]]), fun l => l = l2, ?_, ?_⟩
        · refine .inl ?_
          obtain ⟨b, hb, hl2⟩ := bsm hl2
          refine callA (c_impl_hasN n _ _ hb) ?_
          refine And.intro (fun c => ?_) (fun c => ?_)
          · replace hl2 := cT hl2 c
            obtain ⟨s, hs, hl2⟩ := bsm hl2
            obtain ⟨⟨hle2, hle4⟩, hl2⟩ := gpT hl2
            refine callA (c_impl_itoa n _ _ hs) ?_
            refine And.intro hle2 ?_
            refine callG [0, 1] (sStrU _ _ hle4) rfl (fun K hk => hk) ?_
            rintro rs τ' hl' ⟨rfl, rfl⟩
            replace hl2 := Option.some.inj hl2
            exact ⟨_, hl2, [], ⟨rfl, rfl, rfl, rfl, rfl, trivial⟩, ⟨⟨rfl, rfl, rfl, trivial⟩, rfl, ⟨rfl, rfl, rfl, rfl, trivial⟩, trivial⟩, rfl⟩
          · replace hl2 := cF hl2 c
            replace hl2 := Option.some.inj hl2
            exact ⟨_, hl2, [], ⟨rfl, rfl, rfl, rfl, rfl, trivial⟩, ⟨⟨rfl, rfl, rfl, trivial⟩, rfl, ⟨rfl, rfl, rfl, rfl, trivial⟩, trivial⟩, rfl⟩
        · rintro _ rfl
          refine .inr ⟨List UInt8, fun l => ([(4, .ptr 0 0), (10, .p (.lst (p.map gIns.enc))), (11, .p (I ((p.map gIns.enc).length : Int))), (12, .p (I i))], bX true l), fun l => l = l3, ?_, ?_⟩
          · refine .inl ?_
            obtain ⟨b, hb, hl3⟩ := bsm hl3
            refine callA (c_impl_jumps n _ _ hb) ?_
            refine And.intro (fun c => ?_) (fun c => ?_)
            · replace hl3 := cT hl3 c
              obtain ⟨s, hs, hl3⟩ := bsm hl3
              obtain ⟨⟨hle2, hle4⟩, hl3⟩ := gpT hl3
              refine callA (c_impl_itoa n _ _ hs) ?_
              refine And.intro hle2 ?_
              refine callG [0, 1] (sStrU _ _ hle4) rfl (fun K hk => hk) ?_
              rintro rs τ' hl' ⟨rfl, rfl⟩
              replace hl3 := Option.some.inj hl3
              exact ⟨_, hl3, [], ⟨rfl, rfl, rfl, rfl, trivial⟩, ⟨⟨rfl, rfl, rfl, trivial⟩, rfl, trivial⟩, rfl⟩
            · replace hl3 := cF hl3 c
              replace hl3 := Option.some.inj hl3
              exact ⟨_, hl3, [], ⟨rfl, rfl, rfl, rfl, trivial⟩, ⟨⟨rfl, rfl, rfl, trivial⟩, rfl, trivial⟩, rfl⟩
          · rintro _ rfl
            refine callG [0, 1] (sByteU _ 10 hle3) rfl (fun K hk => hk) ?_
            rintro rs τ' hl' ⟨rfl, rfl⟩
            exact ⟨(true, wr .i64 (i + 1), _), k, ⟨fun c => Bool.noConfusion c, h9⟩, Nat.lt_succ_self _, [], ⟨rfl, rfl, rfl, rfl, trivial⟩, ⟨⟨rfl, rfl, rfl, trivial⟩, rfl, trivial⟩, rfl⟩
      · replace h9 := cF h9 c
        obtain rfl := Option.some.inj h9
        obtain ⟨⟨hne, hsz⟩, h⟩ := gpT h
        exact absurd rfl hne
    | true =>
      refine .inl ?_
      refine .inl ?_
      refine And.intro (fun c => ?_) (fun c => ?_)
      · replace h9 := cT h9 c
        refine .inl ?_
        refine .inl ?_
        obtain ⟨x, hx, h9⟩ := bsm h9
        refine And.intro (ix0 hx) (Exists.intro _ (And.intro (gm (ixg hx)) (And.intro rfl ?_)))
        refine .inl ?_
        obtain ⟨ws, hws, h9⟩ := bsm h9
        obtain ⟨wd, hwd, h9⟩ := bsm h9
        obtain ⟨hle, h9⟩ := gpT h9
        obtain ⟨l2, hl2, h9⟩ := bsm h9
        obtain ⟨l3, hl3, h9⟩ := bsm h9
        obtain ⟨hle3, h9⟩ := gpT h9
        refine ⟨[1, 2, 0, 3, 4, 5], [0, 1], by decide +kernel, ?_⟩
        refine callA (c_impl_insWords n _ hws) ?_
        refine And.intro (ix0 hwd) (Exists.intro _ (And.intro (gm (ixg hwd)) (And.intro rfl ?_)))
        refine callG [0, 1] (sStrU l wd hle) rfl (fun K hk => hk) ?_
        rintro rs τ' hl' ⟨rfl, rfl⟩
        refine .inr ⟨List UInt8, fun l => ([(4, .ptr 0 0), (10, .p (.lst (p.map gIns.enc))), (11, .p (I ((p.map gIns.enc).length : Int))), (12, .p (I i)), (6, .ptr 2 0)], bX true l ++ [.box 38 [.p (I x.op_), .p (I x.n_), .p (I x.to_)]]), fun l => l = l2, ?_, ?_⟩
        · refine .inl ?_
          obtain ⟨b, hb, hl2⟩ := bsm hl2
          refine callA (c_impl_hasN n _ _ hb) ?_
          refine And.intro (fun c => ?_) (fun c => ?_)
          · replace hl2 := cT hl2 c
            obtain ⟨s, hs, hl2⟩ := bsm hl2
            obtain ⟨⟨hle2, hle4⟩, hl2⟩ := gpT hl2
            refine callA (c_impl_itoa n _ _ hs) ?_
            refine And.intro hle2 ?_
            refine callG [0, 1] (sStrU _ _ hle4) rfl (fun K hk => hk) ?_
            rintro rs τ' hl' ⟨rfl, rfl⟩
            replace hl2 := Option.some.inj hl2
            exact ⟨_, hl2, [], ⟨rfl, rfl, rfl, rfl, rfl, trivial⟩, ⟨⟨rfl, rfl, rfl, trivial⟩, rfl, ⟨rfl, rfl, rfl, rfl, trivial⟩, trivial⟩, rfl⟩
          · replace hl2 := cF hl2 c
            replace hl2 := Option.some.inj hl2
            exact ⟨_, hl2, [], ⟨rfl, rfl, rfl, rfl, rfl, trivial⟩, ⟨⟨rfl, rfl, rfl, trivial⟩, rfl, ⟨rfl, rfl, rfl, rfl, trivial⟩, trivial⟩, rfl⟩
        · rintro _ rfl
          refine .inr ⟨List UInt8, fun l => ([(4, .ptr 0 0), (10, .p (.lst (p.map gIns.enc))), (11, .p (I ((p.map gIns.enc).length : Int))), (12, .p (I i))], bX true l), fun l => l = l3, ?_, ?_⟩
          · refine .inl ?_
            obtain ⟨b, hb, hl3⟩ := bsm hl3
            refine callA (c_impl_jumps n _ _ hb) ?_
            refine And.intro (fun c => ?_) (fun c => ?_)
            · replace hl3 := cT hl3 c
              obtain ⟨s, hs, hl3⟩ := bsm hl3
              obtain ⟨⟨hle2, hle4⟩, hl3⟩ := gpT hl3
              refine callA (c_impl_itoa n _ _ hs) ?_
              refine And.intro hle2 ?_
              refine callG [0, 1] (sStrU _ _ hle4) rfl (fun K hk => hk) ?_
              rintro rs τ' hl' ⟨rfl, rfl⟩
              replace hl3 := Option.some.inj hl3
              exact ⟨_, hl3, [], ⟨rfl, rfl, rfl, rfl, trivial⟩, ⟨⟨rfl, rfl, rfl, trivial⟩, rfl, trivial⟩, rfl⟩
            · replace hl3 := cF hl3 c
              replace hl3 := Option.some.inj hl3
              exact ⟨_, hl3, [], ⟨rfl, rfl, rfl, rfl, trivial⟩, ⟨⟨rfl, rfl, rfl, trivial⟩, rfl, trivial⟩, rfl⟩
          · rintro _ rfl
            refine callG [0, 1] (sByteU _ 10 hle3) rfl (fun K hk => hk) ?_
            rintro rs τ' hl' ⟨rfl, rfl⟩
            exact ⟨(true, wr .i64 (i + 1), _), k, ⟨fun c => Bool.noConfusion c, h9⟩, Nat.lt_succ_self _, [], ⟨rfl, rfl, rfl, rfl, trivial⟩, ⟨⟨rfl, rfl, rfl, trivial⟩, rfl, trivial⟩, rfl⟩
      · replace h9 := cF h9 c
        obtain rfl := Option.some.inj h9
        obtain ⟨⟨hne, hsz⟩, h⟩ := gpT h
        refine Or.inl ?_
        refine Or.inl ?_
        refine callG [0, 1] (sLenU l) rfl (fun K hk => hk) ?_
        rintro rs τ' hl' ⟨rfl, rfl⟩
        refine And.intro (fun c => ?_) (fun c => ?_)
        · replace h := cT h c
          replace h := Option.some.inj h
          subst h
          refine .inl ?_
          exact ⟨[.p (S ⟨#[]⟩), .p (I 3)], [], ⟨[], ⟨rfl, rfl, trivial⟩, trivial, rfl⟩, rfl, rfl, rfl⟩
        · replace h := cF h c
          replace h := Option.some.inj h
          subst h
          refine .inl ?_
          refine callG [0, 1] (sString l hne hsz) rfl (fun K hk => hk) ?_
          rintro rs τ' hl' ⟨rfl, rfl⟩
          exact ⟨[.p (S ⟨l.toArray⟩), .p (I 0)], [], ⟨[], ⟨rfl, rfl, trivial⟩, trivial, rfl⟩, rfl, rfl, rfl⟩
end Go.Proofs.YtnnalcglfgapbaaDoor.Z
