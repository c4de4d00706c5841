/- Terms: their scopes. -/
import Derived.Test.YtegpjjnedbbpjaaTnB
set_option linter.unusedVariables false
set_option linter.unusedSimpArgs false
namespace Go.Proofs.Ytegpjjnedbbpjaa.Z
open Go Go.RowKit Go.Proofs.Sy Go.Proofs
set_option maxRecDepth 100000
structure Sc where
  n : Int
  es : List (Int × Int × Int)
  ds : List (Int × ByteArray)
  rs : List (Int × ByteArray)
  dp : List (List Int)
  rp : List (List Int)
def eE (e : Int × Int × Int) : PV := .agg [I e.1, I e.2.1, I e.2.2]
def eS (s : Int × ByteArray) : PV := .agg [I s.1, S s.2]
def eP (p : List Int) : PV := .lst (il p)
def scB (T : TypeId) (s : Sc) : Sto := [.box T [.p (I s.n), .row 1 3 0 s.es.length, .row 2 2 0 s.ds.length, .row 3 2 0 s.rs.length, .row 4 1 0 s.dp.length, .row 5 1 0 s.rp.length],
  .row 165 3 (s.es.map eE), .row 71 2 (s.ds.map eS), .row 71 2 (s.rs.map eS), .row 49 1 (s.dp.map eP), .row 49 1 (s.rp.map eP)]
def scT (T : TypeId) (s : Sc) (t : Tree) : Sto := scB T s ++ [.box 31 [.p (S t.nm), .p (S t.tx), .p (B t.lf), .p (.lst (encM t.ks))]]
mutual
def walkM : Tree → List Int → Int → Sc → Sc
  | ⟨nm, tx, lf, ks⟩, p, sc, s => if lf = true then (if nm = (⟨#[73, 100]⟩ : ByteArray) then { s with rs := s.rs ++ [(sc, tx)], rp := s.rp ++ [p] } else s)
    else if nm = (⟨#[76, 97, 109]⟩ : ByteArray) ∨ nm = (⟨#[76, 101, 116]⟩ : ByteArray) then walkB (ks.length - 1) ks 0 p sc s.n { s with n := s.n + 1, es := s.es ++ [(s.n, sc, 1)] }
    else walkL ks 0 p sc s
def walkL : List Tree → Int → List Int → Int → Sc → Sc
  | [], _, _, _, s => s
  | k :: ks, i, p, sc, s => walkL ks (i + 1) p sc (walkM k (p ++ [i]) sc s)
def walkB (last : Int) : List Tree → Int → List Int → Int → Int → Sc → Sc
  | [], _, _, _, _, s => s
  | k :: ks, i, p, sc, inn, s => walkB last ks (i + 1) p sc inn (if i = 0 then { s with ds := s.ds ++ [(inn, k.tx)], dp := s.dp ++ [p ++ [i]] } else if i = last then walkM k (p ++ [i]) inn s else walkM k (p ++ [i]) sc s)
end
theorem walkM_eq (t : Tree) (p : List Int) (sc : Int) (s : Sc) : walkM t p sc s = if t.lf = true then (if t.nm = (⟨#[73, 100]⟩ : ByteArray) then { s with rs := s.rs ++ [(sc, t.tx)], rp := s.rp ++ [p] } else s)
    else if t.nm = (⟨#[76, 97, 109]⟩ : ByteArray) ∨ t.nm = (⟨#[76, 101, 116]⟩ : ByteArray) then walkB (t.ks.length - 1) t.ks 0 p sc s.n { s with n := s.n + 1, es := s.es ++ [(s.n, sc, 1)] }
    else walkL t.ks 0 p sc s := by cases t; simp only [walkM]
/-- How much there is. -/
def Sc.big (s : Sc) : Nat := s.es.length + s.ds.length + s.rs.length + s.dp.length + s.rp.length + s.n.toNat
mutual
theorem walkM_big : ∀ (t : Tree) (p : List Int) (sc : Int) (s : Sc), 0 ≤ s.n → (walkM t p sc s).big ≤ s.big + 2 * wt t ∧ s.n ≤ (walkM t p sc s).n
  | ⟨nm, tx, lf, ks⟩, p, sc, s, h => by
    simp only [walkM, wt]
    split
    · split
      · simp [Sc.big]; omega
      · exact ⟨by omega, Int.le_refl _⟩
    · split
      · have hb := walkB_big (ks.length - 1) ks 0 p sc s.n { s with n := s.n + 1, es := s.es ++ [(s.n, sc, 1)] } (by show 0 ≤ s.n + 1; omega)
        have e : ({ s with n := s.n + 1, es := s.es ++ [(s.n, sc, 1)] } : Sc).big = s.big + 2 := by simp [Sc.big]; omega
        rw [e] at hb
        simp only at hb
        omega
      · have hl := walkL_big ks 0 p sc s h
        omega
theorem walkL_big : ∀ (l : List Tree) (i : Int) (p : List Int) (sc : Int) (s : Sc), 0 ≤ s.n → (walkL l i p sc s).big ≤ s.big + 2 * wtL l ∧ s.n ≤ (walkL l i p sc s).n
  | [], i, p, sc, s, h => by simp [walkL, wtL]
  | k :: ks, i, p, sc, s, h => by
    have h1 := walkM_big k (p ++ [i]) sc s h
    have h2 := walkL_big ks (i + 1) p sc (walkM k (p ++ [i]) sc s) (by omega)
    simp only [walkL, wtL]
    omega
theorem walkB_big : ∀ (last : Int) (l : List Tree) (i : Int) (p : List Int) (sc inn : Int) (s : Sc), 0 ≤ s.n → (walkB last l i p sc inn s).big ≤ s.big + 2 * wtL l ∧ s.n ≤ (walkB last l i p sc inn s).n
  | last, [], i, p, sc, inn, s, h => by simp [walkB, wtL]
  | last, k :: ks, i, p, sc, inn, s, h => by
    simp only [walkB, wtL]
    have hk : ((if i = 0 then { s with ds := s.ds ++ [(inn, k.tx)], dp := s.dp ++ [p ++ [i]] } else if i = last then walkM k (p ++ [i]) inn s else walkM k (p ++ [i]) sc s) : Sc).big ≤ s.big + 2 * wt k ∧
        s.n ≤ (if i = 0 then { s with ds := s.ds ++ [(inn, k.tx)], dp := s.dp ++ [p ++ [i]] } else if i = last then walkM k (p ++ [i]) inn s else walkM k (p ++ [i]) sc s : Sc).n := by
      have hp := wt_pos k
      split
      · simp [Sc.big]; omega
      · split
        · exact walkM_big k (p ++ [i]) inn s h
        · exact walkM_big k (p ++ [i]) sc s h
    have h2 := walkB_big last ks (i + 1) p sc inn _ (Int.le_trans h hk.2)
    omega
end
theorem map_snoc {α : Type} (e : α → PV) (l : List α) (a : α) : (l ++ [a]).map e = l.map e ++ List.take 1 (List.drop 0 [e a]) := by simp
theorem len_snoc {α : Type} (l : List α) (a : α) : (l ++ [a]).length = l.length + 1 := by simp
theorem row_allM {α : Type} (e : α → PV) (l : List α) : 0 + l.length ≤ (l.map e).length ∧ ((l.map e).drop 0).take l.length = l.map e := row_all' (l.map e) l.length (by simp)
theorem appfit24 (n m : Nat) (h : n + m ≤ 1000000000000) : (n + m) * 24 ≤ 140737488355328 ∧ n + m ≤ 9223372036854775807 := ⟨by omega, by omega⟩
theorem appfit8 (n m : Nat) (h : n + m ≤ 1000000000000) : (n + m) * 8 ≤ 140737488355328 ∧ n + m ≤ 9223372036854775807 := ⟨by omega, by omega⟩
theorem fits_il (p : List Int) : fits 1 (il p) := fits1 fun x hx => by
  obtain ⟨b, _, rfl⟩ := List.mem_map.mp hx
  exact ⟨rfl, rfl⟩
theorem sDown (p : List Int) (k : Int) (hp : p.length ≤ 100000000000) : FnP Try.prog 186 [.lst (il p), I k] [.lst (il (p ++ [k]))] := by
  refine fn_intro Try.func186 rfl rfl rfl ?_
  refine And.intro trivial ?_
  refine Exists.intro ([] : List PV) ?_
  refine And.intro ⟨Nat.le_refl 0, rfl, fits_il p, by rw [il_len]; exact appfit8 0 p.length (by omega)⟩ ?_
  refine And.intro (show fits _ _ from ⟨⟨rfl, rfl⟩, trivial⟩) ?_
  refine Exists.intro _ (And.intro ⟨show 0 + _ ≤ List.length _ from Nat.le_of_eq rfl, rfl⟩ ?_)
  refine Exists.intro (il p) ?_
  refine And.intro ⟨by simp, by simp, ⟨⟨rfl, rfl⟩, trivial⟩, by rw [il_len]; exact appfit8 (0 + p.length) 1 (by omega)⟩ ?_
  refine .inl (Exists.intro (il (p ++ [k])) (And.intro ⟨by simp [il_len], by simp [il]; rw [List.take_of_length_le (by simp)]⟩ ?_))
  exact ⟨[], ⟨trivial, rfl⟩, rfl, rfl⟩
set_option maxHeartbeats 4000000 in
theorem iWalk (t : Tree) (p : List Int) (sc : Int) (s : Sc) (h0 : 0 ≤ s.n) (hb : s.big + 2 * wt t ≤ 100000000000) (hp : p.length + wt t ≤ 100000000000) :
    Sy.Fn Try.prog 114 [.ptr 0 0, .p t.enc, .p (.lst (il p)), .p (I sc)] (scB 162 s) (fun rs τ' => rs = [] ∧ τ' = scB 162 (walkM t p sc s)) := by
  have ih : ∀ k, k ∈ t.ks → ∀ (p : List Int) (sc : Int) (s : Sc), 0 ≤ s.n → s.big + 2 * wt k ≤ 100000000000 → p.length + wt k ≤ 100000000000 →
    Sy.Fn Try.prog 114 [.ptr 0 0, .p k.enc, .p (.lst (il p)), .p (I sc)] (scB 162 s) (fun rs τ' => rs = [] ∧ τ' = scB 162 (walkM k p sc s)) := fun k hk p sc s a b c => iWalk k p sc s a b c
  have hl := wt_len t
  have hww := wt_eq t
  have he : (encM t.ks).length = t.ks.length := encM_len _
  have hes : s.es.length ≤ s.big := by unfold Sc.big; omega
  have hrs : s.rs.length ≤ s.big := by unfold Sc.big; omega
  have hrp : s.rp.length ≤ s.big := by unfold Sc.big; omega
  have hnb : s.n ≤ s.big := by unfold Sc.big; omega
  rw [walkM_eq]
  refine fn_intro Try.func114 rfl rfl rfl ?_
  refine And.intro (fun c0 => ?_) (fun c0 => ?_)
  · rw [if_pos c0]
    repeat' first | (refine And.intro (fun c => ?_) (fun c => ?_) <;> first | exact absurd c (by decide) | (cases c; done) | (simp only [decide_eq_true_eq, decide_eq_false_iff_not] at c) | skip) | fail
    · rw [if_pos (by assumption)]
      refine ⟨[0, 1, 2, 3, 4, 5, 6, 7, 8, 9, 10, 11, 12, 13, 14, 1015], [3], by decide +kernel, ?_⟩
      refine And.intro (show fits _ _ from ⟨⟨rfl, rfl⟩, trivial⟩) ?_
      refine Exists.intro _ (And.intro ⟨show 0 + _ ≤ List.length _ from Nat.le_of_eq rfl, rfl⟩ ?_)
      refine Exists.intro (s.rs.map eS) ?_
      refine And.intro ⟨(row_allM eS s.rs).1, (row_allM eS s.rs).2, ⟨⟨rfl, rfl⟩, trivial⟩, appfit24 s.rs.length 1 (by omega)⟩ ?_
      refine ⟨[0, 1, 2, 3, 4, 6, 5, 7, 8, 9, 10, 11, 1012], [5, 8], by decide +kernel, ?_⟩
      refine And.intro trivial ?_
      refine Exists.intro ([] : List PV) ?_
      refine And.intro ⟨Nat.le_refl 0, rfl, fits_il p, by rw [il_len]; exact appfit8 0 p.length (by omega)⟩ ?_
      refine Exists.intro (il p) (And.intro ⟨by simp, by simp⟩ ?_)
      refine And.intro (show fits _ _ from ⟨⟨rfl, rfl⟩, trivial⟩) ?_
      refine Exists.intro _ (And.intro ⟨show 0 + _ ≤ List.length _ from Nat.le_of_eq rfl, rfl⟩ ?_)
      refine Exists.intro (s.rp.map eP) ?_
      refine And.intro ⟨(row_allM eP s.rp).1, (row_allM eP s.rp).2, ⟨⟨rfl, rfl⟩, trivial⟩, appfit24 s.rp.length 1 (by omega)⟩ ?_
      exact ⟨scB 162 { s with rs := s.rs ++ [(sc, t.tx)], rp := s.rp ++ [p] }, ⟨⟨(by repeat' first | trivial | rfl | exact congrArg (Bk.row _ _) (map_snoc _ _ _) | exact congrArg (AV.row _ _ _) (len_snoc _ _) | refine And.intro ?_ ?_), (by repeat' first | trivial | rfl | exact congrArg (Bk.row _ _) (map_snoc _ _ _) | exact congrArg (AV.row _ _ _) (len_snoc _ _) | refine And.intro ?_ ?_), (by repeat' first | trivial | rfl | exact congrArg (Bk.row _ _) (map_snoc _ _ _) | exact congrArg (AV.row _ _ _) (len_snoc _ _) | refine And.intro ?_ ?_), (by repeat' first | trivial | rfl | exact congrArg (Bk.row _ _) (map_snoc _ _ _) | exact congrArg (AV.row _ _ _) (len_snoc _ _) | refine And.intro ?_ ?_), (by repeat' first | trivial | rfl | exact congrArg (Bk.row _ _) (map_snoc _ _ _) | exact congrArg (AV.row _ _ _) (len_snoc _ _) | refine And.intro ?_ ?_), (by repeat' first | trivial | rfl | exact congrArg (Bk.row _ _) (map_snoc _ _ _) | exact congrArg (AV.row _ _ _) (len_snoc _ _) | refine And.intro ?_ ?_), trivial⟩, rfl⟩, rfl, rfl⟩
    · rw [if_neg (by assumption)]
      exact ⟨scB 162 s, ⟨⟨(by repeat' first | trivial | rfl | exact congrArg (Bk.row _ _) (map_snoc _ _ _) | exact congrArg (AV.row _ _ _) (len_snoc _ _) | refine And.intro ?_ ?_), (by repeat' first | trivial | rfl | exact congrArg (Bk.row _ _) (map_snoc _ _ _) | exact congrArg (AV.row _ _ _) (len_snoc _ _) | refine And.intro ?_ ?_), (by repeat' first | trivial | rfl | exact congrArg (Bk.row _ _) (map_snoc _ _ _) | exact congrArg (AV.row _ _ _) (len_snoc _ _) | refine And.intro ?_ ?_), (by repeat' first | trivial | rfl | exact congrArg (Bk.row _ _) (map_snoc _ _ _) | exact congrArg (AV.row _ _ _) (len_snoc _ _) | refine And.intro ?_ ?_), (by repeat' first | trivial | rfl | exact congrArg (Bk.row _ _) (map_snoc _ _ _) | exact congrArg (AV.row _ _ _) (len_snoc _ _) | refine And.intro ?_ ?_), (by repeat' first | trivial | rfl | exact congrArg (Bk.row _ _) (map_snoc _ _ _) | exact congrArg (AV.row _ _ _) (len_snoc _ _) | refine And.intro ?_ ?_), trivial⟩, rfl⟩, rfl, rfl⟩
  · rw [if_neg (by rw [c0]; simp)]
    have hsc0 : ∀ i : Int, FnP Try.prog 189 [t.enc, I i] [B (binds t && (i == (t.ks.length : Int) - 1))] := fun i => iInScope t i (by omega)
    have hbt : binds t = true ↔ t.nm = (⟨#[76, 97, 109]⟩ : ByteArray) ∨ t.nm = (⟨#[76, 101, 116]⟩ : ByteArray) := by unfold binds; rw [c0]; simp
    -- the kids, from the i-th on
    cases hbb : binds t with
    | false =>
      rw [if_neg (fun h => by rw [hbt.mpr h] at hbb; cases hbb)]
      have hbi := iBinds t
      rw [hbb] at hbi
      refine callA hbi ?_
      repeat' first | (refine And.intro (fun c => ?_) (fun c => ?_) <;> first | exact absurd c (by decide) | (cases c; done) | (simp only [decide_eq_true_eq, decide_eq_false_iff_not] at c) | skip) | fail
      refine ⟨Int × Sc, fun x => ([(0, .ptr 0 0), (2, .p (.lst (il p))), (3, .p (I sc)), (5, .ptr 6 0), (8, .p (I (sc))), (76, .p (.lst (encM t.ks))), (77, .p (I t.ks.length)), (78, .p (I x.1))], scT 162 x.2 t),
        fun x n => 0 ≤ x.1 ∧ x.1 ≤ t.ks.length ∧ n = (t.ks.length - x.1).toNat ∧ 0 ≤ x.2.n ∧ x.2.big + 2 * wtL (t.ks.drop x.1.toNat) ≤ 100000000000 ∧ walkL (t.ks.drop x.1.toNat) x.1 p sc x.2 = walkL t.ks 0 p sc s,
        ⟨(0, s), _, ⟨by simp, by simp, rfl, by show 0 ≤ s.n; omega, by show Sc.big s + 2 * wtL t.ks ≤ _; omega, rfl⟩, [], ⟨rfl, rfl, rfl, rfl, rfl, rfl, congrArg (fun x : Nat => AV.p (I x)) he.symm, rfl, trivial⟩, ⟨(by repeat' first | trivial | rfl | exact congrArg (Bk.row _ _) (map_snoc _ _ _) | exact congrArg (AV.row _ _ _) (len_snoc _ _) | refine And.intro ?_ ?_), (by repeat' first | trivial | rfl | exact congrArg (Bk.row _ _) (map_snoc _ _ _) | exact congrArg (AV.row _ _ _) (len_snoc _ _) | refine And.intro ?_ ?_), (by repeat' first | trivial | rfl | exact congrArg (Bk.row _ _) (map_snoc _ _ _) | exact congrArg (AV.row _ _ _) (len_snoc _ _) | refine And.intro ?_ ?_), (by repeat' first | trivial | rfl | exact congrArg (Bk.row _ _) (map_snoc _ _ _) | exact congrArg (AV.row _ _ _) (len_snoc _ _) | refine And.intro ?_ ?_), (by repeat' first | trivial | rfl | exact congrArg (Bk.row _ _) (map_snoc _ _ _) | exact congrArg (AV.row _ _ _) (len_snoc _ _) | refine And.intro ?_ ?_), (by repeat' first | trivial | rfl | exact congrArg (Bk.row _ _) (map_snoc _ _ _) | exact congrArg (AV.row _ _ _) (len_snoc _ _) | refine And.intro ?_ ?_), ⟨rfl, rfl, rfl, rfl, rfl, trivial⟩, trivial⟩, rfl⟩, ?_⟩
      rintro ⟨i, s'⟩ n ⟨h1, h2, rfl, h3, h4, hr⟩
      simp only at h1 h2 h3 h4 hr
      have hds' : s'.ds.length ≤ s'.big := by unfold Sc.big; omega
      have hdp' : s'.dp.length ≤ s'.big := by unfold Sc.big; omega
      refine And.intro (fun ci => ?_) (fun ci => ?_) <;> simp only [decide_eq_true_eq, decide_eq_false_iff_not] at ci
      · obtain ⟨k, hk, hm, hdr⟩ := drop_cons h1 ci
        have hwk := wt_kid hm
        have hwe := wt_eq k
        rw [hdr, walkL] at hr
        rw [hdr, wtL] at h4
        refine And.intro h1 (Exists.intro k.enc (And.intro (encM_get hk) (And.intro rfl ?_)))
        refine And.intro (show 0 ≤ (0 : Int) ∧ (0 : Int) ≤ ((il p).length : Int) ∧ ((il p).length : Int) = ((il p).length : Int) ∧ ((il p).length : Int) ≤ ((il p).length : Int) by omega) ?_
        refine And.intro (.inl rfl) ?_
        refine And.intro (show fits _ _ from ⟨⟨rfl, rfl⟩, trivial⟩) ?_
        refine Exists.intro _ (And.intro ⟨show 0 + _ ≤ List.length _ from Nat.le_of_eq rfl, rfl⟩ ?_)
        have hq : ((il p).take ((il p).length : Int).toNat).drop (0 : Int).toNat = il p := by simp
        refine And.intro ⟨.inr (by simp), by rw [hq]; exact fits_il p, ⟨⟨rfl, rfl⟩, trivial⟩, by rw [hq, il_len]; exact appfit8 p.length 1 (by omega)⟩ ?_
        have hp' : 0 + (((il p).take ((il p).length : Int).toNat).drop (0 : Int).toNat).length + 1 ≤ (((il p).take ((il p).length : Int).toNat).drop (0 : Int).toNat ++ [I i]).length ∧ ((((il p).take ((il p).length : Int).toNat).drop (0 : Int).toNat ++ [I i]).drop 0).take ((((il p).take ((il p).length : Int).toNat).drop (0 : Int).toNat).length + 1) = il (p ++ [i]) := by
          rw [hq]; exact ⟨by simp, by rw [List.drop_zero, List.take_of_length_le (by simp)]; simp [il]⟩
        repeat' first | (refine And.intro (fun c => ?_) (fun c => ?_) <;> first | exact absurd c (by decide) | (cases c; done) | (simp only [decide_eq_true_eq, decide_eq_false_iff_not] at c) | skip) | refine callA hbi ?_ | fail
        all_goals first | (exfalso; grind) | skip
        all_goals refine callA (hsc0 i) ?_
        all_goals repeat' first | (refine And.intro (fun c => ?_) (fun c => ?_) <;> first | exact absurd c (by decide) | (cases c; done) | (simp only [decide_eq_true_eq, decide_eq_false_iff_not] at c) | skip) | fail
        all_goals first | (exfalso; grind) | skip
        all_goals have hbg := walkM_big k (p ++ [i]) sc s' h3
        all_goals
          refine callF [0, 1, 2, 3, 4, 5] (ih k hm (p ++ [i]) sc s' h3 (by omega) (by simp; omega)) (fun K' hk => .inl ⟨_, hp', hk⟩) rfl ?_
          rintro rs τ' hl' ⟨rfl, rfl⟩
          refine ⟨(i + 1, walkM k (p ++ [i]) sc s'), _, ⟨by simp; omega, by simp; omega, rfl, ?_, ?_, hr⟩, by simp; omega, [], ⟨rfl, rfl, rfl, rfl, rfl, rfl, rfl, congrArg (fun x => AV.p (I x)) (w64 (by omega)).symm, trivial⟩, ⟨(by repeat' first | trivial | rfl | exact congrArg (Bk.row _ _) (map_snoc _ _ _) | exact congrArg (AV.row _ _ _) (len_snoc _ _) | refine And.intro ?_ ?_), (by repeat' first | trivial | rfl | exact congrArg (Bk.row _ _) (map_snoc _ _ _) | exact congrArg (AV.row _ _ _) (len_snoc _ _) | refine And.intro ?_ ?_), (by repeat' first | trivial | rfl | exact congrArg (Bk.row _ _) (map_snoc _ _ _) | exact congrArg (AV.row _ _ _) (len_snoc _ _) | refine And.intro ?_ ?_), (by repeat' first | trivial | rfl | exact congrArg (Bk.row _ _) (map_snoc _ _ _) | exact congrArg (AV.row _ _ _) (len_snoc _ _) | refine And.intro ?_ ?_), (by repeat' first | trivial | rfl | exact congrArg (Bk.row _ _) (map_snoc _ _ _) | exact congrArg (AV.row _ _ _) (len_snoc _ _) | refine And.intro ?_ ?_), (by repeat' first | trivial | rfl | exact congrArg (Bk.row _ _) (map_snoc _ _ _) | exact congrArg (AV.row _ _ _) (len_snoc _ _) | refine And.intro ?_ ?_), ⟨rfl, rfl, rfl, rfl, rfl, trivial⟩, trivial⟩, rfl⟩
          · show 0 ≤ (walkM k (p ++ [i]) sc s').n; omega
          · show (walkM k (p ++ [i]) sc s').big + 2 * wtL (t.ks.drop (i + 1).toNat) ≤ _; omega
      · rw [drop_end (l := t.ks) (i := i) (by omega), walkL] at hr
        rw [← hr]
        exact ⟨scB 162 s', ⟨⟨(by repeat' first | trivial | rfl | exact congrArg (Bk.row _ _) (map_snoc _ _ _) | exact congrArg (AV.row _ _ _) (len_snoc _ _) | refine And.intro ?_ ?_), (by repeat' first | trivial | rfl | exact congrArg (Bk.row _ _) (map_snoc _ _ _) | exact congrArg (AV.row _ _ _) (len_snoc _ _) | refine And.intro ?_ ?_), (by repeat' first | trivial | rfl | exact congrArg (Bk.row _ _) (map_snoc _ _ _) | exact congrArg (AV.row _ _ _) (len_snoc _ _) | refine And.intro ?_ ?_), (by repeat' first | trivial | rfl | exact congrArg (Bk.row _ _) (map_snoc _ _ _) | exact congrArg (AV.row _ _ _) (len_snoc _ _) | refine And.intro ?_ ?_), (by repeat' first | trivial | rfl | exact congrArg (Bk.row _ _) (map_snoc _ _ _) | exact congrArg (AV.row _ _ _) (len_snoc _ _) | refine And.intro ?_ ?_), (by repeat' first | trivial | rfl | exact congrArg (Bk.row _ _) (map_snoc _ _ _) | exact congrArg (AV.row _ _ _) (len_snoc _ _) | refine And.intro ?_ ?_), trivial⟩, rfl⟩, rfl, rfl⟩
    | true =>
      rw [if_pos (hbt.mp hbb)]
      have hbi := iBinds t
      rw [hbb] at hbi
      refine callA hbi ?_
      repeat' first | (refine And.intro (fun c => ?_) (fun c => ?_) <;> first | exact absurd c (by decide) | (cases c; done) | (simp only [decide_eq_true_eq, decide_eq_false_iff_not] at c) | skip) | fail
      refine And.intro (show fits _ _ from ⟨⟨rfl, rfl⟩, trivial⟩) ?_
      refine Exists.intro _ (And.intro ⟨show 0 + _ ≤ List.length _ from Nat.le_of_eq rfl, rfl⟩ ?_)
      refine Exists.intro (s.es.map eE) ?_
      refine And.intro ⟨(row_allM eE s.es).1, (row_allM eE s.es).2, ⟨⟨rfl, rfl⟩, trivial⟩, appfit24 s.es.length 1 (by omega)⟩ ?_
      refine ⟨Int × Sc, fun x => ([(0, .ptr 0 0), (2, .p (.lst (il p))), (3, .p (I sc)), (5, .ptr 6 0), (8, .p (I (s.n))), (76, .p (.lst (encM t.ks))), (77, .p (I t.ks.length)), (78, .p (I x.1))], scT 162 x.2 t),
        fun x n => 0 ≤ x.1 ∧ x.1 ≤ t.ks.length ∧ n = (t.ks.length - x.1).toNat ∧ 0 ≤ x.2.n ∧ x.2.big + 2 * wtL (t.ks.drop x.1.toNat) ≤ 100000000000 ∧ walkB (t.ks.length - 1) (t.ks.drop x.1.toNat) x.1 p sc s.n x.2 = walkB (t.ks.length - 1) t.ks 0 p sc s.n ⟨s.n + 1, s.es ++ [(s.n, sc, 1)], s.ds, s.rs, s.dp, s.rp⟩,
        ⟨(0, ⟨s.n + 1, s.es ++ [(s.n, sc, 1)], s.ds, s.rs, s.dp, s.rp⟩), _, ⟨by simp, by simp, rfl, by show 0 ≤ s.n + 1; omega, by show Sc.big ⟨s.n + 1, s.es ++ [(s.n, sc, 1)], s.ds, s.rs, s.dp, s.rp⟩ + 2 * wtL t.ks ≤ _; simp [Sc.big] at hb ⊢; omega, rfl⟩, [], ⟨rfl, rfl, rfl, rfl, rfl, rfl, congrArg (fun x : Nat => AV.p (I x)) he.symm, rfl, trivial⟩, ⟨⟨rfl, congrArg (fun x => AV.p (I x)) (show s.n + 1 = wr .i64 (s.n + 1) from (w64 (by omega)).symm), (by repeat' first | trivial | rfl | exact congrArg (Bk.row _ _) (map_snoc _ _ _) | exact congrArg (AV.row _ _ _) (len_snoc _ _) | refine And.intro ?_ ?_), rfl, rfl, rfl, rfl, trivial⟩, (by repeat' first | trivial | rfl | exact congrArg (Bk.row _ _) (map_snoc _ _ _) | exact congrArg (AV.row _ _ _) (len_snoc _ _) | refine And.intro ?_ ?_), (by repeat' first | trivial | rfl | exact congrArg (Bk.row _ _) (map_snoc _ _ _) | exact congrArg (AV.row _ _ _) (len_snoc _ _) | refine And.intro ?_ ?_), (by repeat' first | trivial | rfl | exact congrArg (Bk.row _ _) (map_snoc _ _ _) | exact congrArg (AV.row _ _ _) (len_snoc _ _) | refine And.intro ?_ ?_), (by repeat' first | trivial | rfl | exact congrArg (Bk.row _ _) (map_snoc _ _ _) | exact congrArg (AV.row _ _ _) (len_snoc _ _) | refine And.intro ?_ ?_), (by repeat' first | trivial | rfl | exact congrArg (Bk.row _ _) (map_snoc _ _ _) | exact congrArg (AV.row _ _ _) (len_snoc _ _) | refine And.intro ?_ ?_), ⟨rfl, rfl, rfl, rfl, rfl, trivial⟩, trivial⟩, rfl⟩, ?_⟩
      rintro ⟨i, s'⟩ n ⟨h1, h2, rfl, h3, h4, hr⟩
      simp only at h1 h2 h3 h4 hr
      have hds' : s'.ds.length ≤ s'.big := by unfold Sc.big; omega
      have hdp' : s'.dp.length ≤ s'.big := by unfold Sc.big; omega
      refine And.intro (fun ci => ?_) (fun ci => ?_) <;> simp only [decide_eq_true_eq, decide_eq_false_iff_not] at ci
      · obtain ⟨k, hk, hm, hdr⟩ := drop_cons h1 ci
        have hwk := wt_kid hm
        have hwe := wt_eq k
        rw [hdr, walkB] at hr
        rw [hdr, wtL] at h4
        refine And.intro h1 (Exists.intro k.enc (And.intro (encM_get hk) (And.intro rfl ?_)))
        refine And.intro (show 0 ≤ (0 : Int) ∧ (0 : Int) ≤ ((il p).length : Int) ∧ ((il p).length : Int) = ((il p).length : Int) ∧ ((il p).length : Int) ≤ ((il p).length : Int) by omega) ?_
        refine And.intro (.inl rfl) ?_
        refine And.intro (show fits _ _ from ⟨⟨rfl, rfl⟩, trivial⟩) ?_
        refine Exists.intro _ (And.intro ⟨show 0 + _ ≤ List.length _ from Nat.le_of_eq rfl, rfl⟩ ?_)
        have hq : ((il p).take ((il p).length : Int).toNat).drop (0 : Int).toNat = il p := by simp
        refine And.intro ⟨.inr (by simp), by rw [hq]; exact fits_il p, ⟨⟨rfl, rfl⟩, trivial⟩, by rw [hq, il_len]; exact appfit8 p.length 1 (by omega)⟩ ?_
        have hp' : 0 + (((il p).take ((il p).length : Int).toNat).drop (0 : Int).toNat).length + 1 ≤ (((il p).take ((il p).length : Int).toNat).drop (0 : Int).toNat ++ [I i]).length ∧ ((((il p).take ((il p).length : Int).toNat).drop (0 : Int).toNat ++ [I i]).drop 0).take ((((il p).take ((il p).length : Int).toNat).drop (0 : Int).toNat).length + 1) = il (p ++ [i]) := by
          rw [hq]; exact ⟨by simp, by rw [List.drop_zero, List.take_of_length_le (by simp)]; simp [il]⟩
        by_cases hi0 : i = 0
        · subst hi0
          rw [if_pos rfl] at hr
          repeat' first | (refine And.intro (fun c => ?_) (fun c => ?_) <;> first | exact absurd c (by decide) | (cases c; done) | (simp only [decide_eq_true_eq, decide_eq_false_iff_not] at c) | skip) | refine callA hbi ?_ | fail
          all_goals first | (exfalso; grind) | skip
          refine ⟨[0, 1, 2, 3, 4, 5, 6, 7, 8, 9, 10, 11, 12, 13, 14, 1015], [2], by decide +kernel, ?_⟩
          refine And.intro (show fits _ _ from ⟨⟨rfl, rfl⟩, trivial⟩) ?_
          refine Exists.intro _ (And.intro ⟨show 0 + _ ≤ List.length _ from Nat.le_of_eq rfl, rfl⟩ ?_)
          refine Exists.intro (s'.ds.map eS) ?_
          refine And.intro ⟨(row_allM eS s'.ds).1, (row_allM eS s'.ds).2, ⟨⟨rfl, rfl⟩, trivial⟩, appfit24 s'.ds.length 1 (by omega)⟩ ?_
          refine ⟨[0, 1, 2, 3, 4, 6, 5, 7, 8, 9, 10, 11, 1012], [4, 11], by decide +kernel, ?_⟩
          refine And.intro trivial ?_
          refine Exists.intro _ (And.intro hp' ?_)
          refine Exists.intro ([] : List PV) ?_
          refine And.intro ⟨Nat.le_refl 0, rfl, fits_il _, by rw [il_len]; exact appfit8 0 (p ++ [0]).length (by rw [List.length_append]; simp <;> omega)⟩ ?_
          refine Exists.intro (il (p ++ [0])) (And.intro ⟨by simp, by simp⟩ ?_)
          refine And.intro (show fits _ _ from ⟨⟨rfl, rfl⟩, trivial⟩) ?_
          refine Exists.intro _ (And.intro ⟨show 0 + _ ≤ List.length _ from Nat.le_of_eq rfl, rfl⟩ ?_)
          refine Exists.intro (s'.dp.map eP) ?_
          refine And.intro ⟨(row_allM eP s'.dp).1, (row_allM eP s'.dp).2, ⟨⟨rfl, rfl⟩, trivial⟩, appfit24 s'.dp.length 1 (by omega)⟩ ?_
          have hwp := wt_pos k
          refine ⟨(0 + 1, { s' with ds := s'.ds ++ [(s.n, k.tx)], dp := s'.dp ++ [p ++ [0]] }), _, ⟨by first | (simp; done) | (simp; omega), by first | (simp; done) | (simp; omega), rfl, ?_, ?_, hr⟩, by first | (simp; done) | (simp; omega), [], ⟨rfl, rfl, rfl, rfl, rfl, rfl, rfl, congrArg (fun x => AV.p (I x)) (w64 (by omega)).symm, trivial⟩, ⟨(by repeat' first | trivial | rfl | exact congrArg (Bk.row _ _) (map_snoc _ _ _) | exact congrArg (AV.row _ _ _) (len_snoc _ _) | refine And.intro ?_ ?_), (by repeat' first | trivial | rfl | exact congrArg (Bk.row _ _) (map_snoc _ _ _) | exact congrArg (AV.row _ _ _) (len_snoc _ _) | refine And.intro ?_ ?_), (by repeat' first | trivial | rfl | exact congrArg (Bk.row _ _) (map_snoc _ _ _) | exact congrArg (AV.row _ _ _) (len_snoc _ _) | refine And.intro ?_ ?_), (by repeat' first | trivial | rfl | exact congrArg (Bk.row _ _) (map_snoc _ _ _) | exact congrArg (AV.row _ _ _) (len_snoc _ _) | refine And.intro ?_ ?_), (by repeat' first | trivial | rfl | exact congrArg (Bk.row _ _) (map_snoc _ _ _) | exact congrArg (AV.row _ _ _) (len_snoc _ _) | refine And.intro ?_ ?_), (by repeat' first | trivial | rfl | exact congrArg (Bk.row _ _) (map_snoc _ _ _) | exact congrArg (AV.row _ _ _) (len_snoc _ _) | refine And.intro ?_ ?_), ⟨rfl, rfl, rfl, rfl, rfl, trivial⟩, trivial⟩, rfl⟩
          · exact h3
          · show Sc.big { s' with ds := s'.ds ++ [(s.n, k.tx)], dp := s'.dp ++ [p ++ [0]] } + 2 * wtL (t.ks.drop (0 + 1 : Int).toNat) ≤ _; simp [Sc.big] at h4 ⊢; omega
        · rw [if_neg hi0] at hr
          by_cases hil : i = (t.ks.length : Int) - 1
          · rw [if_pos hil] at hr
            repeat' first | (refine And.intro (fun c => ?_) (fun c => ?_) <;> first | exact absurd c (by decide) | (cases c; done) | (simp only [decide_eq_true_eq, decide_eq_false_iff_not] at c) | skip) | refine callA hbi ?_ | fail
            all_goals first | (exfalso; grind) | skip
            refine callA (hsc0 i) ?_
            repeat' first | (refine And.intro (fun c => ?_) (fun c => ?_) <;> first | exact absurd c (by decide) | (cases c; done) | (simp only [decide_eq_true_eq, decide_eq_false_iff_not] at c) | skip) | fail
            all_goals first | (exfalso; grind) | skip
            have hbg := walkM_big k (p ++ [i]) s.n s' h3
            refine callF [0, 1, 2, 3, 4, 5] (ih k hm (p ++ [i]) s.n s' h3 (by omega) (by simp; omega)) (fun K' hk => .inl ⟨_, hp', hk⟩) rfl ?_
            rintro rs τ' hl' ⟨rfl, rfl⟩
            refine ⟨(i + 1, walkM k (p ++ [i]) s.n s'), _, ⟨by simp; omega, by simp; omega, rfl, ?_, ?_, hr⟩, by simp; omega, [], ⟨rfl, rfl, rfl, rfl, rfl, rfl, rfl, congrArg (fun x => AV.p (I x)) (w64 (by omega)).symm, trivial⟩, ⟨(by repeat' first | trivial | rfl | exact congrArg (Bk.row _ _) (map_snoc _ _ _) | exact congrArg (AV.row _ _ _) (len_snoc _ _) | refine And.intro ?_ ?_), (by repeat' first | trivial | rfl | exact congrArg (Bk.row _ _) (map_snoc _ _ _) | exact congrArg (AV.row _ _ _) (len_snoc _ _) | refine And.intro ?_ ?_), (by repeat' first | trivial | rfl | exact congrArg (Bk.row _ _) (map_snoc _ _ _) | exact congrArg (AV.row _ _ _) (len_snoc _ _) | refine And.intro ?_ ?_), (by repeat' first | trivial | rfl | exact congrArg (Bk.row _ _) (map_snoc _ _ _) | exact congrArg (AV.row _ _ _) (len_snoc _ _) | refine And.intro ?_ ?_), (by repeat' first | trivial | rfl | exact congrArg (Bk.row _ _) (map_snoc _ _ _) | exact congrArg (AV.row _ _ _) (len_snoc _ _) | refine And.intro ?_ ?_), (by repeat' first | trivial | rfl | exact congrArg (Bk.row _ _) (map_snoc _ _ _) | exact congrArg (AV.row _ _ _) (len_snoc _ _) | refine And.intro ?_ ?_), ⟨rfl, rfl, rfl, rfl, rfl, trivial⟩, trivial⟩, rfl⟩
            · show 0 ≤ (walkM k (p ++ [i]) s.n s').n; omega
            · show (walkM k (p ++ [i]) s.n s').big + 2 * wtL (t.ks.drop (i + 1).toNat) ≤ _; omega
          · rw [if_neg hil] at hr
            repeat' first | (refine And.intro (fun c => ?_) (fun c => ?_) <;> first | exact absurd c (by decide) | (cases c; done) | (simp only [decide_eq_true_eq, decide_eq_false_iff_not] at c) | skip) | refine callA hbi ?_ | fail
            all_goals first | (exfalso; grind) | skip
            refine callA (hsc0 i) ?_
            repeat' first | (refine And.intro (fun c => ?_) (fun c => ?_) <;> first | exact absurd c (by decide) | (cases c; done) | (simp only [decide_eq_true_eq, decide_eq_false_iff_not] at c) | skip) | fail
            all_goals first | (exfalso; grind) | skip
            have hbg := walkM_big k (p ++ [i]) sc s' h3
            refine callF [0, 1, 2, 3, 4, 5] (ih k hm (p ++ [i]) sc s' h3 (by omega) (by simp; omega)) (fun K' hk => .inl ⟨_, hp', hk⟩) rfl ?_
            rintro rs τ' hl' ⟨rfl, rfl⟩
            refine ⟨(i + 1, walkM k (p ++ [i]) sc s'), _, ⟨by simp; omega, by simp; omega, rfl, ?_, ?_, hr⟩, by simp; omega, [], ⟨rfl, rfl, rfl, rfl, rfl, rfl, rfl, congrArg (fun x => AV.p (I x)) (w64 (by omega)).symm, trivial⟩, ⟨(by repeat' first | trivial | rfl | exact congrArg (Bk.row _ _) (map_snoc _ _ _) | exact congrArg (AV.row _ _ _) (len_snoc _ _) | refine And.intro ?_ ?_), (by repeat' first | trivial | rfl | exact congrArg (Bk.row _ _) (map_snoc _ _ _) | exact congrArg (AV.row _ _ _) (len_snoc _ _) | refine And.intro ?_ ?_), (by repeat' first | trivial | rfl | exact congrArg (Bk.row _ _) (map_snoc _ _ _) | exact congrArg (AV.row _ _ _) (len_snoc _ _) | refine And.intro ?_ ?_), (by repeat' first | trivial | rfl | exact congrArg (Bk.row _ _) (map_snoc _ _ _) | exact congrArg (AV.row _ _ _) (len_snoc _ _) | refine And.intro ?_ ?_), (by repeat' first | trivial | rfl | exact congrArg (Bk.row _ _) (map_snoc _ _ _) | exact congrArg (AV.row _ _ _) (len_snoc _ _) | refine And.intro ?_ ?_), (by repeat' first | trivial | rfl | exact congrArg (Bk.row _ _) (map_snoc _ _ _) | exact congrArg (AV.row _ _ _) (len_snoc _ _) | refine And.intro ?_ ?_), ⟨rfl, rfl, rfl, rfl, rfl, trivial⟩, trivial⟩, rfl⟩
            · show 0 ≤ (walkM k (p ++ [i]) sc s').n; omega
            · show (walkM k (p ++ [i]) sc s').big + 2 * wtL (t.ks.drop (i + 1).toNat) ≤ _; omega
      · rw [drop_end (l := t.ks) (i := i) (by omega), walkB] at hr
        rw [← hr]
        exact ⟨scB 162 s', ⟨⟨(by repeat' first | trivial | rfl | exact congrArg (Bk.row _ _) (map_snoc _ _ _) | exact congrArg (AV.row _ _ _) (len_snoc _ _) | refine And.intro ?_ ?_), (by repeat' first | trivial | rfl | exact congrArg (Bk.row _ _) (map_snoc _ _ _) | exact congrArg (AV.row _ _ _) (len_snoc _ _) | refine And.intro ?_ ?_), (by repeat' first | trivial | rfl | exact congrArg (Bk.row _ _) (map_snoc _ _ _) | exact congrArg (AV.row _ _ _) (len_snoc _ _) | refine And.intro ?_ ?_), (by repeat' first | trivial | rfl | exact congrArg (Bk.row _ _) (map_snoc _ _ _) | exact congrArg (AV.row _ _ _) (len_snoc _ _) | refine And.intro ?_ ?_), (by repeat' first | trivial | rfl | exact congrArg (Bk.row _ _) (map_snoc _ _ _) | exact congrArg (AV.row _ _ _) (len_snoc _ _) | refine And.intro ?_ ?_), (by repeat' first | trivial | rfl | exact congrArg (Bk.row _ _) (map_snoc _ _ _) | exact congrArg (AV.row _ _ _) (len_snoc _ _) | refine And.intro ?_ ?_), trivial⟩, rfl⟩, rfl, rfl⟩
termination_by SizeOf.sizeOf t
decreasing_by exact kid_lt hk
end Go.Proofs.Ytegpjjnedbbpjaa.Z
