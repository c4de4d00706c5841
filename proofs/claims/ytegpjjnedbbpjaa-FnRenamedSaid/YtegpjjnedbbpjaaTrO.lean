/- Draws: any trees. -/
import Derived.Test.YtegpjjnedbbpjaaTrN
set_option linter.unusedVariables false
set_option linter.unusedSimpArgs false
namespace Go.Proofs.Ytegpjjnedbbpjaa.Z
open Go Go.RowKit Go.Proofs.Sy Go.Proofs
set_option maxRecDepth 100000
/-- A loop whose end is drawn anew at each round. -/
def lp {α : Type} (base k : Int) (f : α → α) : Nat → Int → Cu → α → α × Cu
  | 0, _, u, x => (x, (pickM k u).2)
  | n + 1, i, u, x => if i < base + (pickM k u).1 then lp base k f n (i + 1) (pickM k u).2 (f x) else (x, (pickM k u).2)
theorem lp_go {α : Type} {base k : Int} {f : α → α} {n : Nat} {i : Int} {u : Cu} {x : α} (hk : 1 ≤ k) (hf : base + k ≤ i + n) (h : i < base + (pickM k u).1) : ∃ m, n = m + 1 ∧ lp base k f n i u x = lp base k f m (i + 1) (pickM k u).2 (f x) ∧ base + k ≤ i + 1 + m := by
  have hp := pickM_rng k u
  cases n with
  | zero => exfalso; omega
  | succ m => exact ⟨m, rfl, by rw [lp, if_pos h], by omega⟩
theorem lp_end {α : Type} {base k : Int} {f : α → α} {n : Nat} {i : Int} {u : Cu} {x : α} (h : ¬ i < base + (pickM k u).1) : lp base k f n i u x = (x, (pickM k u).2) := by
  cases n with
  | zero => rfl
  | succ m => rw [lp, if_neg h]
def zeros (n : Nat) : ByteArray := ⟨(List.replicate n 0).toArray⟩
theorem zeros_bl (n : Nat) : List.replicate n (U8 0) = bytesL (zeros n) := by
  show _ = bl (List.replicate n (0 : UInt8))
  simp [bl]
def badL : List ByteArray := [⟨#[]⟩, ⟨#[49, 97]⟩, ⟨#[97, 32, 98]⟩, ⟨#[97, 98, 99, 100, 101, 102, 103, 104, 105, 106, 107, 108, 109, 110, 111, 112, 113, 114, 115, 116, 117, 118, 119, 120, 121]⟩]
def dash : Tree := ⟨⟨#[45]⟩, ⟨#[]⟩, false, []⟩
def nodeR (z : List Tree × Cu) : Tree × Cu := (mkNode ⟨#[110]⟩ z.1, z.2)
def anyC (r : Tree × Cu) : Tree × Cu :=
  let p := pickM 24 r.2
  if p.1 = 0 then (⟨badL.getD (pickM 4 p.2).1.toNat ⟨#[]⟩, r.1.tx, r.1.lf, r.1.ks⟩, (pickM 4 p.2).2)
  else if p.1 = 1 then (⟨r.1.nm, r.1.tx, !r.1.lf, r.1.ks⟩, p.2)
  else if p.1 = 2 then (⟨r.1.nm, r.1.tx ++ ⟨#[113]⟩, r.1.lf, r.1.ks⟩, p.2)
  else if p.1 = 3 then (⟨r.1.nm, r.1.tx, r.1.lf, r.1.ks ++ [dash]⟩, p.2)
  else if p.1 = 4 then lp 60 2 (fun t => mkNode ⟨#[110]⟩ [t]) 100 1 p.2 (mkLeaf ⟨#[97]⟩ ⟨#[]⟩)
  else if p.1 = 5 then nodeR (lp 1000 2 (fun ks => ks ++ [mkLeaf ⟨#[107]⟩ ⟨#[]⟩]) 1100 1 p.2 [])
  else if p.1 = 6 then (mkLeaf ⟨#[97]⟩ (zeros (200 + (pickM 2 p.2).1).toNat), (pickM 2 p.2).2)
  else if p.1 = 7 then nodeR (lp 24 3 (fun ks => ks ++ [mkLeaf ⟨#[97, 98, 99]⟩ (zeros 200)]) 100 0 p.2 [])
  else (r.1, p.2)
def anyM (u : Cu) : Tree × Cu := anyC (drawTree (1 + (sizeM 5 u).1).toNat (sizeM 5 u).2)
theorem sizeM_rng (m : Int) (u : Cu) (hm : 0 ≤ m) : 0 ≤ (sizeM m u).1 ∧ (sizeM m u).1 ≤ m := by
  unfold sizeM
  have h := pickM_rng ((if (u.code.length : Int) / 12 + 2 > m then m else (u.code.length : Int) / 12 + 2) + 1) u
  refine ⟨h.1, ?_⟩
  rcases h.2 with h2 | h2
  · split at h2 <;> omega
  · omega
def aR2 (c : Cu) (l : List Tree) : Sto := [.box 213 [.p (.lst (bl c.code)), .p (I c.at_), .p (I c.seed)], .box 31 [.dead, .dead, .dead, .dead], .box 31 [.dead, .dead, .dead, .dead], .row 31 4 (encM l)]
def aR4 (c : Cu) (l : List Tree) : Sto := [.box 213 [.p (.lst (bl c.code)), .p (I c.at_), .p (I c.seed)], .box 31 [.dead, .dead, .dead, .dead], .dead, .dead, .box 31 [.dead, .dead, .dead, .dead], .row 31 4 (encM l)]
def aB2 (c : Cu) (t : Tree) : Sto := [.box 213 [.p (.lst (bl c.code)), .p (I c.at_), .p (I c.seed)], .box 31 [.dead, .dead, .dead, .dead], .box 31 [.p (S t.nm), .p (S t.tx), .p (B t.lf), .p (.lst (encM t.ks))]]
def aB4 (c : Cu) (t : Tree) : Sto := [.box 213 [.p (.lst (bl c.code)), .p (I c.at_), .p (I c.seed)], .box 31 [.dead, .dead, .dead, .dead], .dead, .dead, .box 31 [.p (S t.nm), .p (S t.tx), .p (B t.lf), .p (.lst (encM t.ks))]]
set_option maxHeartbeats 2000000 in
theorem cAny (u : Cu) (hb : ∀ n u, n ≤ 6 → (drawTree n u).1.ks.length ≤ 3 ∧ (drawTree n u).1.tx.size ≤ 100) : Sy.Fn Try.prog 79 [.ptr 0 0] (cuB u) (fun rs τ' => rs = [.p (anyM u).1.enc] ∧ τ' = cuB (anyM u).2) := by
  have hs := sizeM_rng 5 u (by omega)
  have e1 : wr .i64 (1 + (sizeM 5 u).1) = ((1 + (sizeM 5 u).1).toNat : Int) := (w64 (by omega)).trans (by omega)
  unfold anyM
  have hcall : ∀ z : Int, z = ((1 + (sizeM 5 u).1).toNat : Int) → Sy.Fn Try.prog 159 [.ptr 0 0, .p (I z)] (cuB (sizeM 5 u).2) (treeP (drawTree (1 + (sizeM 5 u).1).toNat (sizeM 5 u).2)) := fun z hz => by rw [hz]; exact cTree _ (by omega) _
  have hb := hb (1 + (sizeM 5 u).1).toNat (sizeM 5 u).2 (by omega)
  generalize drawTree (1 + (sizeM 5 u).1).toNat (sizeM 5 u).2 = r at hcall hb ⊢
  obtain ⟨⟨nm, tx, lf, ks⟩, v⟩ := r
  simp only at hb
  refine fn_intro Try.func79 rfl rfl rfl ?_
  refine callG [0] (cSize 5 u (by omega)) rfl (fun K hk => hk) ?_
  rintro rs τ' hl' ⟨rfl, rfl⟩
  refine callG [0] (hcall _ e1) rfl (fun K hk => hk) ?_
  intro rs τ' hl' hpost
  unfold treeP at hpost
  simp only at hpost
  have hp := pickM_rng 24 v
  split at hpost
  · rename_i hlf
    subst hlf
    obtain ⟨rfl, rfl, rfl⟩ := hpost
    refine callG [0] (cPick 24 v) rfl (fun K hk => hk) ?_
    rintro rs τ' hl' ⟨rfl, rfl⟩
    refine And.intro (fun c => ?_) (fun c => ?_)
    · have h0 : (pickM 24 v).1 = 0 := by simpa using c
      have hq := pickM_rng 4 (pickM 24 v).2
      have hx : (badL.map S)[0 + (pickM 4 (pickM 24 v).2).1.toNat]? = some (S (badL.getD (pickM 4 (pickM 24 v).2).1.toNat ⟨#[]⟩)) := by
        have : (pickM 4 (pickM 24 v).2).1.toNat < badL.length := by show _ < 4; omega
        simp [this]
      have hm : anyC (⟨nm, tx, true, ([] : List Tree)⟩, v) = (⟨badL.getD (pickM 4 (pickM 24 v).2).1.toNat ⟨#[]⟩, tx, true, ([] : List Tree)⟩, (pickM 4 (pickM 24 v).2).2) := by simp [anyC, h0]
      rw [hm]
      refine And.intro (show fits _ _ by repeat' constructor) ?_
      refine callG [0] (cPick 4 _) rfl (fun K hk => hk) ?_
      rintro rs τ' hl' ⟨rfl, rfl⟩
      refine And.intro ⟨hq.1, show (pickM 4 (pickM 24 v).2).1 < (4 : Nat) by omega⟩ (Exists.intro _ (And.intro hx ?_))
      exact .inl ⟨cuB _, ⟨⟨⟨rfl, rfl, rfl, rfl, trivial⟩, trivial⟩, rfl⟩, rfl, rfl⟩
    have n0 : ¬ (pickM 24 v).1 = 0 := by simpa using c
    refine And.intro (fun c => ?_) (fun c => ?_)
    · have h1 : (pickM 24 v).1 = 1 := by simpa using c
      have hm : anyC (⟨nm, tx, true, ([] : List Tree)⟩, v) = (⟨nm, tx, !true, ([] : List Tree)⟩, (pickM 24 v).2) := by simp [anyC, h1]
      rw [hm]
      exact .inl ⟨cuB _, ⟨⟨⟨rfl, rfl, rfl, rfl, trivial⟩, trivial⟩, rfl⟩, rfl, rfl⟩
    have n1 : ¬ (pickM 24 v).1 = 1 := by simpa using c
    refine And.intro (fun c => ?_) (fun c => ?_)
    · have h2 : (pickM 24 v).1 = 2 := by simpa using c
      have hm : anyC (⟨nm, tx, true, ([] : List Tree)⟩, v) = (⟨nm, tx ++ ⟨#[113]⟩, true, ([] : List Tree)⟩, (pickM 24 v).2) := by simp [anyC, h2]
      rw [hm]
      refine And.intro (by show ((tx.size + 1 : Nat) : Int) ≤ _; omega) ?_
      exact .inl ⟨cuB _, ⟨⟨⟨rfl, rfl, rfl, rfl, trivial⟩, trivial⟩, rfl⟩, rfl, rfl⟩
    have n2 : ¬ (pickM 24 v).1 = 2 := by simpa using c
    refine And.intro (fun c => ?_) (fun c => ?_)
    · have h3 : (pickM 24 v).1 = 3 := by simpa using c
      have hm : anyC (⟨nm, tx, true, ([] : List Tree)⟩, v) = (⟨nm, tx, true, ([] : List Tree) ++ [dash]⟩, (pickM 24 v).2) := by simp [anyC, h3]
      rw [hm]
      refine And.intro (show fits _ _ from ⟨⟨rfl, rfl⟩, trivial⟩) ?_
      refine Exists.intro _ (And.intro ⟨show 0 + _ ≤ List.length _ from Nat.le_of_eq rfl, rfl⟩ ?_)
      refine And.intro ⟨.inl rfl, trivial, ⟨⟨rfl, rfl⟩, trivial⟩, appfitT 0 1 (by omega)⟩ ?_
      exact .inl (Exists.intro (encM [dash]) (And.intro (row_allT [dash]) ⟨cuB _, ⟨⟨⟨rfl, rfl, rfl, rfl, trivial⟩, trivial⟩, rfl⟩, rfl, rfl⟩))
    have n3 : ¬ (pickM 24 v).1 = 3 := by simpa using c
    refine And.intro (fun c => ?_) (fun c => ?_)
    · have h4 : (pickM 24 v).1 = 4 := by simpa using c
      have hm : anyC (⟨nm, tx, true, ([] : List Tree)⟩, v) = lp 60 2 (fun t => mkNode ⟨#[110]⟩ [t]) 100 1 (pickM 24 v).2 (mkLeaf ⟨#[97]⟩ ⟨#[]⟩) := by simp [anyC, h4]
      rw [hm]
      generalize hR : lp 60 2 (fun t => mkNode ⟨#[110]⟩ [t]) 100 1 (pickM 24 v).2 (mkLeaf ⟨#[97]⟩ ⟨#[]⟩) = R
      refine callA (cLeaf _ _) ?_
      refine ⟨Int × Cu × Tree, fun x => ([(0, .ptr 0 0), (2, .ptr 1 0), (3, .ptr 2 0), (4, .p (I x.1))], aB2 x.2.1 x.2.2),
        fun x m => 1 ≤ x.1 ∧ x.1 ≤ 1000 ∧ (60 : Int) + 2 ≤ x.1 + m ∧ lp 60 2 (fun t => mkNode ⟨#[110]⟩ [t]) m x.1 x.2.1 x.2.2 = R,
        ⟨(1, (pickM 24 v).2, mkLeaf ⟨#[97]⟩ ⟨#[]⟩), 100, ⟨by simp, by simp, by simp, hR⟩, [], ⟨rfl, rfl, rfl, rfl, trivial⟩, ⟨⟨rfl, rfl, rfl, rfl, trivial⟩, ⟨rfl, trivial, trivial, trivial, trivial, trivial⟩, ⟨rfl, rfl, rfl, rfl, rfl, trivial⟩, trivial⟩, rfl⟩, ?_⟩
      rintro ⟨i, w, t⟩ m ⟨g0, g1, g2, hr⟩
      simp only at g0 g1 g2 hr
      have hp2 := pickM_rng 2 w
      have e2 : wr .i64 (60 + (pickM 2 w).1) = 60 + (pickM 2 w).1 := w64 (by omega)
      refine callG [0] (cPick 2 w) rfl (fun K hk => hk) ?_
      rintro rs τ' hl' ⟨rfl, rfl⟩
      refine And.intro (fun c => ?_) (fun c => ?_)
      · have c' : i < 60 + (pickM 2 w).1 := by rw [← e2]; exact of_decide_eq_true c
        obtain ⟨m', rfl, hgo, hm'⟩ := lp_go (f := fun t => mkNode ⟨#[110]⟩ [t]) (x := t) (by omega) g2 c'
        rw [hgo] at hr
        refine And.intro (show fits _ _ from ⟨⟨rfl, rfl⟩, trivial⟩) ?_
        refine callP (cNode ⟨#[110]⟩ [t]) (fun K hk => Exists.intro (encM [t]) (And.intro (by rw [encM_one]; exact row_all' [t.enc] 1) hk)) ?_
        exact ⟨(i + 1, (pickM 2 w).2, mkNode ⟨#[110]⟩ [t]), _, ⟨by simp; omega, by simp; omega, by simp; omega, hr⟩, Nat.lt_succ_self _, [], ⟨rfl, rfl, rfl, congrArg (fun x => AV.p (I x)) (w64 (by omega)).symm, trivial⟩, ⟨⟨rfl, rfl, rfl, rfl, trivial⟩, ⟨rfl, trivial, trivial, trivial, trivial, trivial⟩, ⟨rfl, rfl, rfl, rfl, rfl, trivial⟩, trivial⟩, rfl⟩
      · have c' : ¬ i < 60 + (pickM 2 w).1 := by rw [← e2]; exact of_decide_eq_false c
        rw [lp_end c'] at hr
        subst hr
        exact ⟨cuB _, ⟨⟨⟨rfl, rfl, rfl, rfl, trivial⟩, trivial⟩, rfl⟩, rfl, rfl⟩
    have n4 : ¬ (pickM 24 v).1 = 4 := by simpa using c
    refine And.intro (fun c => ?_) (fun c => ?_)
    · have h5 : (pickM 24 v).1 = 5 := by simpa using c
      have hm : anyC (⟨nm, tx, true, ([] : List Tree)⟩, v) = nodeR (lp 1000 2 (fun ks => ks ++ [mkLeaf ⟨#[107]⟩ ⟨#[]⟩]) 1100 1 (pickM 24 v).2 []) := by simp [anyC, h5]
      rw [hm]
      generalize hR : lp 1000 2 (fun ks => ks ++ [mkLeaf ⟨#[107]⟩ ⟨#[]⟩]) 1100 1 (pickM 24 v).2 [] = R
      refine And.intro trivial ?_
      refine ⟨Int × Cu × List Tree, fun x => ([(0, .ptr 0 0), (2, .ptr 1 0), (3, .ptr 2 0), (5, .row 3 4 0 x.2.2.length), (6, .p (I x.1))], aR2 x.2.1 x.2.2),
        fun x m => 1 ≤ x.1 ∧ x.1 ≤ 2000 ∧ (1000 : Int) + 2 ≤ x.1 + m ∧ x.2.2.length ≤ x.1 ∧ lp 1000 2 (fun ks => ks ++ [mkLeaf ⟨#[107]⟩ ⟨#[]⟩]) m x.1 x.2.1 x.2.2 = R,
        ⟨(1, (pickM 24 v).2, []), 1100, ⟨by simp, by simp, by simp, by simp, hR⟩, [], ⟨rfl, rfl, rfl, rfl, rfl, trivial⟩, ⟨⟨rfl, rfl, rfl, rfl, trivial⟩, ⟨rfl, trivial, trivial, trivial, trivial, trivial⟩, ⟨rfl, trivial, trivial, trivial, trivial, trivial⟩, rfl, trivial⟩, rfl⟩, ?_⟩
      rintro ⟨i, w, l⟩ m ⟨g0, g1, g2, g3, hr⟩
      simp only at g0 g1 g2 g3 hr
      have hp2 := pickM_rng 2 w
      have e2 : wr .i64 (1000 + (pickM 2 w).1) = 1000 + (pickM 2 w).1 := w64 (by omega)
      refine callG [0] (cPick 2 w) rfl (fun K hk => hk) ?_
      rintro rs τ' hl' ⟨rfl, rfl⟩
      refine And.intro (fun c => ?_) (fun c => ?_)
      · have c' : i < 1000 + (pickM 2 w).1 := by rw [← e2]; exact of_decide_eq_true c
        obtain ⟨m', rfl, hgo, hm'⟩ := lp_go (f := fun ks => ks ++ [mkLeaf ⟨#[107]⟩ ⟨#[]⟩]) (x := l) (by omega) g2 c'
        rw [hgo] at hr
        refine callA (cLeaf _ _) ?_
        refine And.intro (show fits _ _ from ⟨⟨rfl, rfl⟩, trivial⟩) ?_
        refine Exists.intro _ (And.intro ⟨show 0 + _ ≤ List.length _ from Nat.le_of_eq rfl, rfl⟩ ?_)
        refine Exists.intro (encM l) ?_
        refine And.intro ⟨(row_allT l).1, (row_allT l).2, ⟨⟨rfl, rfl⟩, trivial⟩, appfitT l.length 1 (by omega)⟩ ?_
        refine ⟨(i + 1, (pickM 2 w).2, l ++ [mkLeaf ⟨#[107]⟩ ⟨#[]⟩]), _, ⟨by simp; omega, by simp; omega, by simp; omega, by simp; omega, hr⟩, Nat.lt_succ_self _, [], ⟨rfl, rfl, rfl, ?_, congrArg (fun x => AV.p (I x)) (w64 (by omega)).symm, trivial⟩, ⟨⟨rfl, rfl, rfl, rfl, trivial⟩, ⟨rfl, trivial, trivial, trivial, trivial, trivial⟩, ⟨rfl, trivial, trivial, trivial, trivial, trivial⟩, ?_, trivial⟩, rfl⟩
        · exact congrArg (AV.row 3 4 0) (by rw [List.length_append]; rfl)
        · exact congrArg (Bk.row _ 4) (by rw [encM_app, encM_one]; rfl)
      · have c' : ¬ i < 1000 + (pickM 2 w).1 := by rw [← e2]; exact of_decide_eq_false c
        rw [lp_end c'] at hr
        subst hr
        refine callP (cNode ⟨#[110]⟩ l) (fun K hk => Exists.intro (encM l) (And.intro (row_allT l) hk)) ?_
        exact ⟨cuB _, ⟨⟨⟨rfl, rfl, rfl, rfl, trivial⟩, trivial⟩, rfl⟩, rfl, rfl⟩
    have n5 : ¬ (pickM 24 v).1 = 5 := by simpa using c
    refine And.intro (fun c => ?_) (fun c => ?_)
    · have h6 : (pickM 24 v).1 = 6 := by simpa using c
      have hm : anyC (⟨nm, tx, true, ([] : List Tree)⟩, v) = (mkLeaf ⟨#[97]⟩ (zeros (200 + (pickM 2 (pickM 24 v).2).1).toNat), (pickM 2 (pickM 24 v).2).2) := by simp [anyC, h6]
      rw [hm]
      have hp2 := pickM_rng 2 (pickM 24 v).2
      have e2 : wr .i64 (200 + (pickM 2 (pickM 24 v).2).1) = 200 + (pickM 2 (pickM 24 v).2).1 := w64 (by omega)
      refine callG [0] (cPick 2 _) rfl (fun K hk => hk) ?_
      rintro rs τ' hl' ⟨rfl, rfl⟩
      refine And.intro (show _ ∧ 0 ≤ wr .i64 (200 + (pickM 2 (pickM 24 v).2).1) ∧ wr .i64 (200 + (pickM 2 (pickM 24 v).2).1) ≤ wr .i64 (200 + (pickM 2 (pickM 24 v).2).1) ∧ wr .i64 (200 + (pickM 2 (pickM 24 v).2).1) * (1 : Nat) ≤ 140737488355328 ∧ wr .i64 (200 + (pickM 2 (pickM 24 v).2).1) ≤ 9223372036854775807 from ⟨rfl, by omega, by omega, by omega, by omega⟩) ?_
      refine Exists.intro (bytesL (zeros (200 + (pickM 2 (pickM 24 v).2).1).toNat)) (And.intro (by rw [e2, ← zeros_bl]; exact row_all' (List.replicate _ (U8 0)) _ (List.length_replicate ..).symm) ?_)
      refine Exists.intro _ (And.intro rfl ?_)
      refine callA (cLeaf _ _) ?_
      exact ⟨cuB _, ⟨⟨⟨rfl, rfl, rfl, rfl, trivial⟩, trivial⟩, rfl⟩, rfl, rfl⟩
    have n6 : ¬ (pickM 24 v).1 = 6 := by simpa using c
    refine And.intro (fun c => ?_) (fun c => ?_)
    · have h7 : (pickM 24 v).1 = 7 := by simpa using c
      have hm : anyC (⟨nm, tx, true, ([] : List Tree)⟩, v) = nodeR (lp 24 3 (fun ks => ks ++ [mkLeaf ⟨#[97, 98, 99]⟩ (zeros 200)]) 100 0 (pickM 24 v).2 []) := by simp [anyC, h7]
      rw [hm]
      generalize hR : lp 24 3 (fun ks => ks ++ [mkLeaf ⟨#[97, 98, 99]⟩ (zeros 200)]) 100 0 (pickM 24 v).2 [] = R
      refine And.intro trivial ?_
      refine ⟨Int × Cu × List Tree, fun x => ([(0, .ptr 0 0), (2, .ptr 1 0), (3, .ptr 2 0), (7, .row 3 4 0 x.2.2.length), (8, .p (I x.1))], aR2 x.2.1 x.2.2),
        fun x m => 0 ≤ x.1 ∧ x.1 ≤ 2000 ∧ (24 : Int) + 3 ≤ x.1 + m ∧ x.2.2.length ≤ x.1 ∧ lp 24 3 (fun ks => ks ++ [mkLeaf ⟨#[97, 98, 99]⟩ (zeros 200)]) m x.1 x.2.1 x.2.2 = R,
        ⟨(0, (pickM 24 v).2, []), 100, ⟨by simp, by simp, by simp, by simp, hR⟩, [], ⟨rfl, rfl, rfl, rfl, rfl, trivial⟩, ⟨⟨rfl, rfl, rfl, rfl, trivial⟩, ⟨rfl, trivial, trivial, trivial, trivial, trivial⟩, ⟨rfl, trivial, trivial, trivial, trivial, trivial⟩, rfl, trivial⟩, rfl⟩, ?_⟩
      rintro ⟨i, w, l⟩ m ⟨g0, g1, g2, g3, hr⟩
      simp only at g0 g1 g2 g3 hr
      have hp2 := pickM_rng 3 w
      have e2 : wr .i64 (24 + (pickM 3 w).1) = 24 + (pickM 3 w).1 := w64 (by omega)
      refine callG [0] (cPick 3 w) rfl (fun K hk => hk) ?_
      rintro rs τ' hl' ⟨rfl, rfl⟩
      refine And.intro (fun c => ?_) (fun c => ?_)
      · have c' : i < 24 + (pickM 3 w).1 := by rw [← e2]; exact of_decide_eq_true c
        obtain ⟨m', rfl, hgo, hm'⟩ := lp_go (f := fun ks => ks ++ [mkLeaf ⟨#[97, 98, 99]⟩ (zeros 200)]) (x := l) (by omega) g2 c'
        rw [hgo] at hr
        refine And.intro (show _ ∧ (0 : Int) ≤ 200 ∧ (200 : Int) ≤ 200 ∧ (200 : Int) * (1 : Nat) ≤ 140737488355328 ∧ (200 : Int) ≤ 9223372036854775807 from ⟨rfl, by decide, by decide, by decide, by decide⟩) ?_
        refine Exists.intro (bytesL (zeros 200)) (And.intro (by rw [← zeros_bl]; exact row_all' (List.replicate _ (U8 0)) _ (List.length_replicate ..).symm) ?_)
        refine Exists.intro _ (And.intro rfl ?_)
        refine callA (cLeaf _ _) ?_
        refine And.intro (show fits _ _ from ⟨⟨rfl, rfl⟩, trivial⟩) ?_
        refine Exists.intro _ (And.intro ⟨show 0 + _ ≤ List.length _ from Nat.le_of_eq rfl, rfl⟩ ?_)
        refine Exists.intro (encM l) ?_
        refine And.intro ⟨(row_allT l).1, (row_allT l).2, ⟨⟨rfl, rfl⟩, trivial⟩, appfitT l.length 1 (by omega)⟩ ?_
        refine ⟨(i + 1, (pickM 3 w).2, l ++ [mkLeaf ⟨#[97, 98, 99]⟩ (zeros 200)]), _, ⟨by simp; omega, by simp; omega, by simp; omega, by simp; omega, hr⟩, Nat.lt_succ_self _, [], ⟨rfl, rfl, rfl, ?_, congrArg (fun x => AV.p (I x)) (w64 (by omega)).symm, trivial⟩, ⟨⟨rfl, rfl, rfl, rfl, trivial⟩, ⟨rfl, trivial, trivial, trivial, trivial, trivial⟩, ⟨rfl, trivial, trivial, trivial, trivial, trivial⟩, ?_, trivial⟩, rfl⟩
        · exact congrArg (AV.row 3 4 0) (by rw [List.length_append]; rfl)
        · exact congrArg (Bk.row _ 4) (by rw [encM_app, encM_one]; rfl)
      · have c' : ¬ i < 24 + (pickM 3 w).1 := by rw [← e2]; exact of_decide_eq_false c
        rw [lp_end c'] at hr
        subst hr
        refine callP (cNode ⟨#[110]⟩ l) (fun K hk => Exists.intro (encM l) (And.intro (row_allT l) hk)) ?_
        exact ⟨cuB _, ⟨⟨⟨rfl, rfl, rfl, rfl, trivial⟩, trivial⟩, rfl⟩, rfl, rfl⟩
    have n7 : ¬ (pickM 24 v).1 = 7 := by simpa using c
    have hm : anyC (⟨nm, tx, true, ([] : List Tree)⟩, v) = (⟨nm, tx, true, ([] : List Tree)⟩, (pickM 24 v).2) := by simp [anyC, n0, n1, n2, n3, n4, n5, n6, n7]
    rw [hm]
    exact .inl ⟨cuB _, ⟨⟨⟨rfl, rfl, rfl, rfl, trivial⟩, trivial⟩, rfl⟩, rfl, rfl⟩
  · rename_i hlf
    have hlf : lf = false := by simpa using hlf
    subst hlf
    obtain ⟨rfl, rfl⟩ := hpost
    refine callG [0] (cPick 24 v) rfl (fun K hk => hk) ?_
    rintro rs τ' hl' ⟨rfl, rfl⟩
    refine And.intro (fun c => ?_) (fun c => ?_)
    · have h0 : (pickM 24 v).1 = 0 := by simpa using c
      have hq := pickM_rng 4 (pickM 24 v).2
      have hx : (badL.map S)[0 + (pickM 4 (pickM 24 v).2).1.toNat]? = some (S (badL.getD (pickM 4 (pickM 24 v).2).1.toNat ⟨#[]⟩)) := by
        have : (pickM 4 (pickM 24 v).2).1.toNat < badL.length := by show _ < 4; omega
        simp [this]
      have hm : anyC (⟨nm, tx, false, ks⟩, v) = (⟨badL.getD (pickM 4 (pickM 24 v).2).1.toNat ⟨#[]⟩, tx, false, ks⟩, (pickM 4 (pickM 24 v).2).2) := by simp [anyC, h0]
      rw [hm]
      refine And.intro (show fits _ _ by repeat' constructor) ?_
      refine callG [0] (cPick 4 _) rfl (fun K hk => hk) ?_
      rintro rs τ' hl' ⟨rfl, rfl⟩
      refine And.intro ⟨hq.1, show (pickM 4 (pickM 24 v).2).1 < (4 : Nat) by omega⟩ (Exists.intro _ (And.intro hx ?_))
      exact .inl (Exists.intro (encM ks) (And.intro (row_allT ks) ⟨cuB _, ⟨⟨⟨rfl, rfl, rfl, rfl, trivial⟩, trivial⟩, rfl⟩, rfl, rfl⟩))
    have n0 : ¬ (pickM 24 v).1 = 0 := by simpa using c
    refine And.intro (fun c => ?_) (fun c => ?_)
    · have h1 : (pickM 24 v).1 = 1 := by simpa using c
      have hm : anyC (⟨nm, tx, false, ks⟩, v) = (⟨nm, tx, !false, ks⟩, (pickM 24 v).2) := by simp [anyC, h1]
      rw [hm]
      exact .inl (Exists.intro (encM ks) (And.intro (row_allT ks) ⟨cuB _, ⟨⟨⟨rfl, rfl, rfl, rfl, trivial⟩, trivial⟩, rfl⟩, rfl, rfl⟩))
    have n1 : ¬ (pickM 24 v).1 = 1 := by simpa using c
    refine And.intro (fun c => ?_) (fun c => ?_)
    · have h2 : (pickM 24 v).1 = 2 := by simpa using c
      have hm : anyC (⟨nm, tx, false, ks⟩, v) = (⟨nm, tx ++ ⟨#[113]⟩, false, ks⟩, (pickM 24 v).2) := by simp [anyC, h2]
      rw [hm]
      refine And.intro (by show ((tx.size + 1 : Nat) : Int) ≤ _; omega) ?_
      exact .inl (Exists.intro (encM ks) (And.intro (row_allT ks) ⟨cuB _, ⟨⟨⟨rfl, rfl, rfl, rfl, trivial⟩, trivial⟩, rfl⟩, rfl, rfl⟩))
    have n2 : ¬ (pickM 24 v).1 = 2 := by simpa using c
    refine And.intro (fun c => ?_) (fun c => ?_)
    · have h3 : (pickM 24 v).1 = 3 := by simpa using c
      have hm : anyC (⟨nm, tx, false, ks⟩, v) = (⟨nm, tx, false, ks ++ [dash]⟩, (pickM 24 v).2) := by simp [anyC, h3]
      rw [hm]
      refine And.intro (show fits _ _ from ⟨⟨rfl, rfl⟩, trivial⟩) ?_
      refine Exists.intro _ (And.intro ⟨show 0 + _ ≤ List.length _ from Nat.le_of_eq rfl, rfl⟩ ?_)
      refine Exists.intro (encM ks) ?_
      refine And.intro ⟨(row_allT ks).1, (row_allT ks).2, ⟨⟨rfl, rfl⟩, trivial⟩, appfitT ks.length 1 (by omega)⟩ ?_
      exact .inl (Exists.intro (encM (ks ++ [dash])) (And.intro (by rw [encM_app, encM_one]; exact row_all' _ _ (by simp [encM_len])) ⟨cuB _, ⟨⟨⟨rfl, rfl, rfl, rfl, trivial⟩, trivial⟩, rfl⟩, rfl, rfl⟩))
    have n3 : ¬ (pickM 24 v).1 = 3 := by simpa using c
    refine And.intro (fun c => ?_) (fun c => ?_)
    · have h4 : (pickM 24 v).1 = 4 := by simpa using c
      have hm : anyC (⟨nm, tx, false, ks⟩, v) = lp 60 2 (fun t => mkNode ⟨#[110]⟩ [t]) 100 1 (pickM 24 v).2 (mkLeaf ⟨#[97]⟩ ⟨#[]⟩) := by simp [anyC, h4]
      rw [hm]
      generalize hR : lp 60 2 (fun t => mkNode ⟨#[110]⟩ [t]) 100 1 (pickM 24 v).2 (mkLeaf ⟨#[97]⟩ ⟨#[]⟩) = R
      refine callA (cLeaf _ _) ?_
      refine ⟨Int × Cu × Tree, fun x => ([(0, .ptr 0 0), (2, .ptr 1 0), (3, .ptr 4 0), (4, .p (I x.1))], aB4 x.2.1 x.2.2),
        fun x m => 1 ≤ x.1 ∧ x.1 ≤ 1000 ∧ (60 : Int) + 2 ≤ x.1 + m ∧ lp 60 2 (fun t => mkNode ⟨#[110]⟩ [t]) m x.1 x.2.1 x.2.2 = R,
        ⟨(1, (pickM 24 v).2, mkLeaf ⟨#[97]⟩ ⟨#[]⟩), 100, ⟨by simp, by simp, by simp, hR⟩, [], ⟨rfl, rfl, rfl, rfl, trivial⟩, ⟨⟨rfl, rfl, rfl, rfl, trivial⟩, ⟨rfl, trivial, trivial, trivial, trivial, trivial⟩, trivial, trivial, ⟨rfl, rfl, rfl, rfl, rfl, trivial⟩, trivial⟩, rfl⟩, ?_⟩
      rintro ⟨i, w, t⟩ m ⟨g0, g1, g2, hr⟩
      simp only at g0 g1 g2 hr
      have hp2 := pickM_rng 2 w
      have e2 : wr .i64 (60 + (pickM 2 w).1) = 60 + (pickM 2 w).1 := w64 (by omega)
      refine callG [0] (cPick 2 w) rfl (fun K hk => hk) ?_
      rintro rs τ' hl' ⟨rfl, rfl⟩
      refine And.intro (fun c => ?_) (fun c => ?_)
      · have c' : i < 60 + (pickM 2 w).1 := by rw [← e2]; exact of_decide_eq_true c
        obtain ⟨m', rfl, hgo, hm'⟩ := lp_go (f := fun t => mkNode ⟨#[110]⟩ [t]) (x := t) (by omega) g2 c'
        rw [hgo] at hr
        refine And.intro (show fits _ _ from ⟨⟨rfl, rfl⟩, trivial⟩) ?_
        refine callP (cNode ⟨#[110]⟩ [t]) (fun K hk => Exists.intro (encM [t]) (And.intro (by rw [encM_one]; exact row_all' [t.enc] 1) hk)) ?_
        exact ⟨(i + 1, (pickM 2 w).2, mkNode ⟨#[110]⟩ [t]), _, ⟨by simp; omega, by simp; omega, by simp; omega, hr⟩, Nat.lt_succ_self _, [], ⟨rfl, rfl, rfl, congrArg (fun x => AV.p (I x)) (w64 (by omega)).symm, trivial⟩, ⟨⟨rfl, rfl, rfl, rfl, trivial⟩, ⟨rfl, trivial, trivial, trivial, trivial, trivial⟩, trivial, trivial, ⟨rfl, rfl, rfl, rfl, rfl, trivial⟩, trivial⟩, rfl⟩
      · have c' : ¬ i < 60 + (pickM 2 w).1 := by rw [← e2]; exact of_decide_eq_false c
        rw [lp_end c'] at hr
        subst hr
        exact ⟨cuB _, ⟨⟨⟨rfl, rfl, rfl, rfl, trivial⟩, trivial⟩, rfl⟩, rfl, rfl⟩
    have n4 : ¬ (pickM 24 v).1 = 4 := by simpa using c
    refine And.intro (fun c => ?_) (fun c => ?_)
    · have h5 : (pickM 24 v).1 = 5 := by simpa using c
      have hm : anyC (⟨nm, tx, false, ks⟩, v) = nodeR (lp 1000 2 (fun ks => ks ++ [mkLeaf ⟨#[107]⟩ ⟨#[]⟩]) 1100 1 (pickM 24 v).2 []) := by simp [anyC, h5]
      rw [hm]
      generalize hR : lp 1000 2 (fun ks => ks ++ [mkLeaf ⟨#[107]⟩ ⟨#[]⟩]) 1100 1 (pickM 24 v).2 [] = R
      refine And.intro trivial ?_
      refine ⟨Int × Cu × List Tree, fun x => ([(0, .ptr 0 0), (2, .ptr 1 0), (3, .ptr 4 0), (5, .row 5 4 0 x.2.2.length), (6, .p (I x.1))], aR4 x.2.1 x.2.2),
        fun x m => 1 ≤ x.1 ∧ x.1 ≤ 2000 ∧ (1000 : Int) + 2 ≤ x.1 + m ∧ x.2.2.length ≤ x.1 ∧ lp 1000 2 (fun ks => ks ++ [mkLeaf ⟨#[107]⟩ ⟨#[]⟩]) m x.1 x.2.1 x.2.2 = R,
        ⟨(1, (pickM 24 v).2, []), 1100, ⟨by simp, by simp, by simp, by simp, hR⟩, [], ⟨rfl, rfl, rfl, rfl, rfl, trivial⟩, ⟨⟨rfl, rfl, rfl, rfl, trivial⟩, ⟨rfl, trivial, trivial, trivial, trivial, trivial⟩, trivial, trivial, ⟨rfl, trivial, trivial, trivial, trivial, trivial⟩, rfl, trivial⟩, rfl⟩, ?_⟩
      rintro ⟨i, w, l⟩ m ⟨g0, g1, g2, g3, hr⟩
      simp only at g0 g1 g2 g3 hr
      have hp2 := pickM_rng 2 w
      have e2 : wr .i64 (1000 + (pickM 2 w).1) = 1000 + (pickM 2 w).1 := w64 (by omega)
      refine callG [0] (cPick 2 w) rfl (fun K hk => hk) ?_
      rintro rs τ' hl' ⟨rfl, rfl⟩
      refine And.intro (fun c => ?_) (fun c => ?_)
      · have c' : i < 1000 + (pickM 2 w).1 := by rw [← e2]; exact of_decide_eq_true c
        obtain ⟨m', rfl, hgo, hm'⟩ := lp_go (f := fun ks => ks ++ [mkLeaf ⟨#[107]⟩ ⟨#[]⟩]) (x := l) (by omega) g2 c'
        rw [hgo] at hr
        refine callA (cLeaf _ _) ?_
        refine And.intro (show fits _ _ from ⟨⟨rfl, rfl⟩, trivial⟩) ?_
        refine Exists.intro _ (And.intro ⟨show 0 + _ ≤ List.length _ from Nat.le_of_eq rfl, rfl⟩ ?_)
        refine Exists.intro (encM l) ?_
        refine And.intro ⟨(row_allT l).1, (row_allT l).2, ⟨⟨rfl, rfl⟩, trivial⟩, appfitT l.length 1 (by omega)⟩ ?_
        refine ⟨(i + 1, (pickM 2 w).2, l ++ [mkLeaf ⟨#[107]⟩ ⟨#[]⟩]), _, ⟨by simp; omega, by simp; omega, by simp; omega, by simp; omega, hr⟩, Nat.lt_succ_self _, [], ⟨rfl, rfl, rfl, ?_, congrArg (fun x => AV.p (I x)) (w64 (by omega)).symm, trivial⟩, ⟨⟨rfl, rfl, rfl, rfl, trivial⟩, ⟨rfl, trivial, trivial, trivial, trivial, trivial⟩, trivial, trivial, ⟨rfl, trivial, trivial, trivial, trivial, trivial⟩, ?_, trivial⟩, rfl⟩
        · exact congrArg (AV.row 5 4 0) (by rw [List.length_append]; rfl)
        · exact congrArg (Bk.row _ 4) (by rw [encM_app, encM_one]; rfl)
      · have c' : ¬ i < 1000 + (pickM 2 w).1 := by rw [← e2]; exact of_decide_eq_false c
        rw [lp_end c'] at hr
        subst hr
        refine callP (cNode ⟨#[110]⟩ l) (fun K hk => Exists.intro (encM l) (And.intro (row_allT l) hk)) ?_
        exact ⟨cuB _, ⟨⟨⟨rfl, rfl, rfl, rfl, trivial⟩, trivial⟩, rfl⟩, rfl, rfl⟩
    have n5 : ¬ (pickM 24 v).1 = 5 := by simpa using c
    refine And.intro (fun c => ?_) (fun c => ?_)
    · have h6 : (pickM 24 v).1 = 6 := by simpa using c
      have hm : anyC (⟨nm, tx, false, ks⟩, v) = (mkLeaf ⟨#[97]⟩ (zeros (200 + (pickM 2 (pickM 24 v).2).1).toNat), (pickM 2 (pickM 24 v).2).2) := by simp [anyC, h6]
      rw [hm]
      have hp2 := pickM_rng 2 (pickM 24 v).2
      have e2 : wr .i64 (200 + (pickM 2 (pickM 24 v).2).1) = 200 + (pickM 2 (pickM 24 v).2).1 := w64 (by omega)
      refine callG [0] (cPick 2 _) rfl (fun K hk => hk) ?_
      rintro rs τ' hl' ⟨rfl, rfl⟩
      refine And.intro (show _ ∧ 0 ≤ wr .i64 (200 + (pickM 2 (pickM 24 v).2).1) ∧ wr .i64 (200 + (pickM 2 (pickM 24 v).2).1) ≤ wr .i64 (200 + (pickM 2 (pickM 24 v).2).1) ∧ wr .i64 (200 + (pickM 2 (pickM 24 v).2).1) * (1 : Nat) ≤ 140737488355328 ∧ wr .i64 (200 + (pickM 2 (pickM 24 v).2).1) ≤ 9223372036854775807 from ⟨rfl, by omega, by omega, by omega, by omega⟩) ?_
      refine Exists.intro (bytesL (zeros (200 + (pickM 2 (pickM 24 v).2).1).toNat)) (And.intro (by rw [e2, ← zeros_bl]; exact row_all' (List.replicate _ (U8 0)) _ (List.length_replicate ..).symm) ?_)
      refine Exists.intro _ (And.intro rfl ?_)
      refine callA (cLeaf _ _) ?_
      exact ⟨cuB _, ⟨⟨⟨rfl, rfl, rfl, rfl, trivial⟩, trivial⟩, rfl⟩, rfl, rfl⟩
    have n6 : ¬ (pickM 24 v).1 = 6 := by simpa using c
    refine And.intro (fun c => ?_) (fun c => ?_)
    · have h7 : (pickM 24 v).1 = 7 := by simpa using c
      have hm : anyC (⟨nm, tx, false, ks⟩, v) = nodeR (lp 24 3 (fun ks => ks ++ [mkLeaf ⟨#[97, 98, 99]⟩ (zeros 200)]) 100 0 (pickM 24 v).2 []) := by simp [anyC, h7]
      rw [hm]
      generalize hR : lp 24 3 (fun ks => ks ++ [mkLeaf ⟨#[97, 98, 99]⟩ (zeros 200)]) 100 0 (pickM 24 v).2 [] = R
      refine And.intro trivial ?_
      refine ⟨Int × Cu × List Tree, fun x => ([(0, .ptr 0 0), (2, .ptr 1 0), (3, .ptr 4 0), (7, .row 5 4 0 x.2.2.length), (8, .p (I x.1))], aR4 x.2.1 x.2.2),
        fun x m => 0 ≤ x.1 ∧ x.1 ≤ 2000 ∧ (24 : Int) + 3 ≤ x.1 + m ∧ x.2.2.length ≤ x.1 ∧ lp 24 3 (fun ks => ks ++ [mkLeaf ⟨#[97, 98, 99]⟩ (zeros 200)]) m x.1 x.2.1 x.2.2 = R,
        ⟨(0, (pickM 24 v).2, []), 100, ⟨by simp, by simp, by simp, by simp, hR⟩, [], ⟨rfl, rfl, rfl, rfl, rfl, trivial⟩, ⟨⟨rfl, rfl, rfl, rfl, trivial⟩, ⟨rfl, trivial, trivial, trivial, trivial, trivial⟩, trivial, trivial, ⟨rfl, trivial, trivial, trivial, trivial, trivial⟩, rfl, trivial⟩, rfl⟩, ?_⟩
      rintro ⟨i, w, l⟩ m ⟨g0, g1, g2, g3, hr⟩
      simp only at g0 g1 g2 g3 hr
      have hp2 := pickM_rng 3 w
      have e2 : wr .i64 (24 + (pickM 3 w).1) = 24 + (pickM 3 w).1 := w64 (by omega)
      refine callG [0] (cPick 3 w) rfl (fun K hk => hk) ?_
      rintro rs τ' hl' ⟨rfl, rfl⟩
      refine And.intro (fun c => ?_) (fun c => ?_)
      · have c' : i < 24 + (pickM 3 w).1 := by rw [← e2]; exact of_decide_eq_true c
        obtain ⟨m', rfl, hgo, hm'⟩ := lp_go (f := fun ks => ks ++ [mkLeaf ⟨#[97, 98, 99]⟩ (zeros 200)]) (x := l) (by omega) g2 c'
        rw [hgo] at hr
        refine And.intro (show _ ∧ (0 : Int) ≤ 200 ∧ (200 : Int) ≤ 200 ∧ (200 : Int) * (1 : Nat) ≤ 140737488355328 ∧ (200 : Int) ≤ 9223372036854775807 from ⟨rfl, by decide, by decide, by decide, by decide⟩) ?_
        refine Exists.intro (bytesL (zeros 200)) (And.intro (by rw [← zeros_bl]; exact row_all' (List.replicate _ (U8 0)) _ (List.length_replicate ..).symm) ?_)
        refine Exists.intro _ (And.intro rfl ?_)
        refine callA (cLeaf _ _) ?_
        refine And.intro (show fits _ _ from ⟨⟨rfl, rfl⟩, trivial⟩) ?_
        refine Exists.intro _ (And.intro ⟨show 0 + _ ≤ List.length _ from Nat.le_of_eq rfl, rfl⟩ ?_)
        refine Exists.intro (encM l) ?_
        refine And.intro ⟨(row_allT l).1, (row_allT l).2, ⟨⟨rfl, rfl⟩, trivial⟩, appfitT l.length 1 (by omega)⟩ ?_
        refine ⟨(i + 1, (pickM 3 w).2, l ++ [mkLeaf ⟨#[97, 98, 99]⟩ (zeros 200)]), _, ⟨by simp; omega, by simp; omega, by simp; omega, by simp; omega, hr⟩, Nat.lt_succ_self _, [], ⟨rfl, rfl, rfl, ?_, congrArg (fun x => AV.p (I x)) (w64 (by omega)).symm, trivial⟩, ⟨⟨rfl, rfl, rfl, rfl, trivial⟩, ⟨rfl, trivial, trivial, trivial, trivial, trivial⟩, trivial, trivial, ⟨rfl, trivial, trivial, trivial, trivial, trivial⟩, ?_, trivial⟩, rfl⟩
        · exact congrArg (AV.row 5 4 0) (by rw [List.length_append]; rfl)
        · exact congrArg (Bk.row _ 4) (by rw [encM_app, encM_one]; rfl)
      · have c' : ¬ i < 24 + (pickM 3 w).1 := by rw [← e2]; exact of_decide_eq_false c
        rw [lp_end c'] at hr
        subst hr
        refine callP (cNode ⟨#[110]⟩ l) (fun K hk => Exists.intro (encM l) (And.intro (row_allT l) hk)) ?_
        exact ⟨cuB _, ⟨⟨⟨rfl, rfl, rfl, rfl, trivial⟩, trivial⟩, rfl⟩, rfl, rfl⟩
    have n7 : ¬ (pickM 24 v).1 = 7 := by simpa using c
    have hm : anyC (⟨nm, tx, false, ks⟩, v) = (⟨nm, tx, false, ks⟩, (pickM 24 v).2) := by simp [anyC, n0, n1, n2, n3, n4, n5, n6, n7]
    rw [hm]
    exact .inl (Exists.intro (encM ks) (And.intro (row_allT ks) ⟨cuB _, ⟨⟨⟨rfl, rfl, rfl, rfl, trivial⟩, trivial⟩, rfl⟩, rfl, rfl⟩))
end Go.Proofs.Ytegpjjnedbbpjaa.Z
