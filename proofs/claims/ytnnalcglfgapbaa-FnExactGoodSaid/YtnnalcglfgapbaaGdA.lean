/- Grammars: sizes, copies, sameness (the law's own functions), plain. -/
import Derived.Test.YtnnalcglfgapbaaPlB
set_option linter.unusedVariables false
set_option linter.unusedSectionVars false
set_option linter.unusedSimpArgs false
namespace Go.Proofs.Ytnnalcglfgapbaa.Z
open Go Go.RowKit Go.Proofs.Sy Go.Proofs
set_option maxRecDepth 100000
theorem lf_lf {left : Int} {a b : Nat} (h : 0 ≤ lf left a) : lf (lf left a) b = lf left (a + b) := by
  have h1 := lf_nonneg h
  rw [h1.1]
  by_cases g : left - a - (b : Int) < 0
  · rw [lf_neg g, lf_neg (by omega)]
  · rw [lf_pos g, lf_pos (by omega)]; omega
theorem lf_lt {left : Int} {a b : Nat} (h0 : 0 ≤ left) (h : lf left a < 0) : lf left a = -1 ∧ lf left (a + b) = -1 := by
  by_cases g : left - (a : Int) < 0
  · exact ⟨lf_neg g, lf_neg (by omega)⟩
  · rw [lf_pos g] at h; omega
theorem take1 {left : Int} {c : Nat} (h0 : 0 ≤ left) (h1 : left ≤ 1048576) (hc : c ≤ 1000000000000000) {β : Type} (f : Int → Option β) (b : Option β) :
    (bif decide (wr .i64 (left - (c : Int)) < 0) then b else f (wr .i64 (left - (c : Int)))) = if left - (c : Int) < 0 then b else f (left - (c : Int)) := by
  rw [wid (by omega)]
  by_cases g : left - (c : Int) < 0
  · rw [decide_eq_true g, if_pos g]; rfl
  · rw [decide_eq_false g, if_neg g]; rfl
def big47 (n : Nat) : Prop := n ≤ 140737488351232
structure BB (b : gBnf) : Prop where
  t : big47 b.terms_.length ∧ ∀ x ∈ b.terms_, big47 x.name_.size
  s : big47 b.nons_.length ∧ ∀ x ∈ b.nons_, big47 x.size
  p : big47 b.prods_.length ∧ ∀ x ∈ b.prods_, big47 x.right_.length ∧ big47 x.label_.size
def cP (p : gProd) : Nat := p.right_.length + p.label_.size
def szT (l : List gTerm) : Nat := l.length + sumL (fun x => x.name_.size) l
def szS (l : List ByteArray) : Nat := l.length + sumL (fun x => x.size) l
def szP (l : List gProd) : Nat := l.length + sumL cP l
def szB (b : gBnf) : Nat := szT b.terms_ + szS b.nons_ + szP b.prods_
theorem szTermS {n : Nat} (hn : 1100000 ≤ n) {l : List gTerm} (hl : big47 l.length) (hx : ∀ x ∈ l, big47 x.name_.size) {left : Int} (h0 : 0 ≤ left) (h1 : left ≤ 1048576) : m_laws_szTermS n l left = some (lf left (szT l)) := by
  unfold m_laws_szTermS big47 at *
  rw [List.length_map]
  rw [take1 h0 h1 (by omega) (fun z => m_laws_szTermS_l3 n l n z 0) (some (-1))]
  by_cases g : left - (l.length : Int) < 0
  · rw [if_pos g]; unfold szT; rw [lf_neg (by omega)]
  · rw [if_neg g]
    have := loop_sz l (fun x => x.name_.size) (m_laws_szTermS_l3 n l) (fun k pre x r left h h0 h1 => by
      have hm : x ∈ l := by rw [h]; simp
      have hl2 : l.length = pre.length + (r.length + 1) := by rw [h]; simp
      rw [m_laws_szTermS_l3, List.length_map, decide_eq_true (by omega)]
      have e : m_laws_szTerm n x left = some (lf left x.name_.size) := by
        unfold m_laws_szTerm
        rw [take1 h0 h1 (by have := hx x hm; omega) (fun z => some z) (some (-1))]
        unfold lf; split <;> rfl
      have ei : ix l (pre.length : Int) = some x := by rw [h, ixp]
      simp only [cond_true, ei, Option.bind_some, e]
      by_cases g2 : left - (x.name_.size : Int) < 0
      · rw [lf_neg g2, if_pos g2]; rfl
      · rw [lf_pos g2, if_neg g2, decide_eq_false g2, wln pre x (by omega)]; rfl) (fun k left => by
      rw [m_laws_szTermS_l3, List.length_map, decide_eq_false (by omega)]; rfl) l [] n (left - l.length) rfl (by omega) (by omega) (by omega)
    refine Eq.trans this ?_
    unfold szT
    rw [← lf_pos g, lf_lf (by rw [lf_pos g]; omega)]
theorem szStringS {n : Nat} (hn : 1100000 ≤ n) {l : List ByteArray} (hl : big47 l.length) (hx : ∀ x ∈ l, big47 x.size) {left : Int} (h0 : 0 ≤ left) (h1 : left ≤ 1048576) : m_laws_szStringS n l left = some (lf left (szS l)) := by
  unfold m_laws_szStringS big47 at *
  rw [List.length_map]
  rw [take1 h0 h1 (by omega) (fun z => m_laws_szStringS_l3 l n z 0) (some (-1))]
  by_cases g : left - (l.length : Int) < 0
  · rw [if_pos g]; unfold szS; rw [lf_neg (by omega)]
  · rw [if_neg g]
    have := loop_sz l (fun x => x.size) (m_laws_szStringS_l3 l) (fun k pre x r left h h0 h1 => by
      have hm : x ∈ l := by rw [h]; simp
      have hl2 : l.length = pre.length + (r.length + 1) := by rw [h]; simp
      have ei : ix l (pre.length : Int) = some x := by rw [h, ixp]
      rw [m_laws_szStringS_l3, List.length_map, decide_eq_true (by omega), cond_true, ei, Option.bind_some, wln pre x (by omega)]
      exact take1 h0 h1 (by have := hx x hm; omega) (fun z => m_laws_szStringS_l3 l k z _) (some (-1))) (fun k left => by
      rw [m_laws_szStringS_l3, List.length_map, decide_eq_false (by omega)]; rfl) l [] n (left - l.length) rfl (by omega) (by omega) (by omega)
    refine Eq.trans this ?_
    unfold szS
    rw [← lf_pos g, lf_lf (by rw [lf_pos g]; omega)]
theorem szProd1 {n : Nat} {x : gProd} (hx : big47 x.right_.length ∧ big47 x.label_.size) {left : Int} (h0 : 0 ≤ left) (h1 : left ≤ 1048576) : m_laws_szProd n x left = some (lf left (cP x)) := by
  unfold m_laws_szProd m_laws_szIntS big47 at *
  rw [List.length_map, take1 h0 h1 (by omega) (fun z => some z) (some (-1))]
  unfold cP
  by_cases g : left - (x.right_.length : Int) < 0
  · rw [if_pos g, Option.bind_some, lf_neg (by omega)]; rfl
  · rw [if_neg g, Option.bind_some, decide_eq_false g, cond_false, take1 (by omega) (by omega) (by omega) (fun z => some z) (some (-1))]
    by_cases g2 : left - (x.right_.length : Int) - (x.label_.size : Int) < 0
    · rw [if_pos g2, lf_neg (by omega)]
    · rw [if_neg g2, lf_pos (by omega)]; congr 1; omega
theorem szProdS {n : Nat} (hn : 1100000 ≤ n) {l : List gProd} (hl : big47 l.length) (hx : ∀ x ∈ l, big47 x.right_.length ∧ big47 x.label_.size) {left : Int} (h0 : 0 ≤ left) (h1 : left ≤ 1048576) : m_laws_szProdS n l left = some (lf left (szP l)) := by
  unfold m_laws_szProdS
  unfold big47 at hl
  rw [List.length_map]
  rw [take1 h0 h1 (by omega) (fun z => m_laws_szProdS_l3 n l n z 0) (some (-1))]
  by_cases g : left - (l.length : Int) < 0
  · rw [if_pos g]; unfold szP; rw [lf_neg (by omega)]
  · rw [if_neg g]
    have := loop_sz l cP (m_laws_szProdS_l3 n l) (fun k pre x r left h h0 h1 => by
      have hm : x ∈ l := by rw [h]; simp
      have hl2 : l.length = pre.length + (r.length + 1) := by rw [h]; simp
      have ei : ix l (pre.length : Int) = some x := by rw [h, ixp]
      rw [m_laws_szProdS_l3, List.length_map, decide_eq_true (by omega)]
      simp only [cond_true, ei, Option.bind_some, szProd1 (n := n) (hx x hm) h0 h1]
      by_cases g2 : left - (cP x : Int) < 0
      · rw [lf_neg g2, if_pos g2]; rfl
      · rw [lf_pos g2, if_neg g2, decide_eq_false g2, wln pre x (by omega)]; rfl) (fun k left => by
      rw [m_laws_szProdS_l3, List.length_map, decide_eq_false (by omega)]; rfl) l [] n (left - l.length) rfl (by omega) (by omega) (by omega)
    refine Eq.trans this ?_
    unfold szP
    rw [← lf_pos g, lf_lf (by rw [lf_pos g]; omega)]
theorem szBnf_ {n : Nat} (hn : 1100000 ≤ n) {b : gBnf} (hb : BB b) : m_laws_szBnf n b 1048576 = some (lf 1048576 (szB b)) := by
  unfold m_laws_szBnf szB
  rw [szTermS hn hb.t.1 hb.t.2 (by omega) (by omega), Option.bind_some]
  by_cases g : lf 1048576 (szT b.terms_) < 0
  · rw [decide_eq_true g, cond_true, Nat.add_assoc, (lf_lt (by omega) g).2]
  · have g1 := lf_nonneg (by omega : 0 ≤ lf 1048576 (szT b.terms_))
    rw [decide_eq_false g, cond_false, szStringS hn hb.s.1 hb.s.2 (by omega) (by omega), Option.bind_some, lf_lf (by omega)]
    by_cases g' : lf 1048576 (szT b.terms_ + szS b.nons_) < 0
    · rw [decide_eq_true g', cond_true, (lf_lt (by omega) g').2]
    · have g2 := lf_nonneg (by omega : 0 ≤ lf 1048576 (szT b.terms_ + szS b.nons_))
      rw [decide_eq_false g', cond_false, szProdS hn hb.p.1 hb.p.2 (by omega) (by omega), Option.bind_some, lf_lf (by omega)]
      by_cases g3 : lf 1048576 (szT b.terms_ + szS b.nons_ + szP b.prods_) < 0
      · rw [decide_eq_true g3, cond_true, (lf_lt (b := 0) (by omega) g3).1]
      · rw [decide_eq_false g3]; rfl
/-- What the bound leaves. -/
structure BS (b : gBnf) : Prop where
  t : b.terms_.length ≤ 1048576
  s : b.nons_.length ≤ 1048576
  p : b.prods_.length ≤ 1048576
  r : ∀ x ∈ b.prods_, x.right_.length ≤ 1048576
theorem BS.of {b : gBnf} (h : 0 ≤ lf 1048576 (szB b)) : BS b := by
  have h1 := (lf_nonneg h).2
  unfold szB szT szS szP at h1
  refine ⟨by omega, by omega, by omega, fun x hx => ?_⟩
  have := sumL_mem (c := cP) hx
  unfold cP at this
  unfold cP at h1
  omega
theorem len_cp {α : Type} (n : Nat) (z : α) : (List.replicate (n : Int).toNat z).length = n := by simp
theorem toTermS_ {n : Nat} {l : List gTerm} (h : l.length ≤ 1048576) (hn : 1100000 ≤ n) : m_laws_toTermS n l = some l := by
  unfold m_laws_toTermS
  rw [List.length_map, gp_pos (by omega)]
  exact loop_copy l (m_laws_toTermS_l3 n l) some (fun k pre x r v h hv => by
    have ei : ix l (pre.length : Int) = some x := by rw [h, ixp]
    have hl2 : l.length = pre.length + (r.length + 1) := by rw [h]; simp
    obtain ⟨y, ey, _⟩ := ix_lt (l := v) (i := (pre.length : Int)) (by omega) (by omega)
    rw [m_laws_toTermS_l3, List.length_map, decide_eq_true (by omega)]
    simp only [cond_true, ei, Option.bind_some, m_laws_toTerm, ey, wln pre x (by omega), Int.toNat_natCast]) (fun k v => by
    rw [m_laws_toTermS_l3, List.length_map, decide_eq_false (by omega)]; rfl) l [] n _ rfl (by omega) (len_cp _ _) rfl
theorem toStringS_ {n : Nat} {l : List ByteArray} (h : l.length ≤ 1048576) (hn : 1100000 ≤ n) : m_laws_toStringS n l = some l := by
  unfold m_laws_toStringS
  rw [List.length_map, gp_pos (by omega)]
  exact loop_copy l (m_laws_toStringS_l3 l) some (fun k pre x r v h hv => by
    have ei : ix l (pre.length : Int) = some x := by rw [h, ixp]
    have hl2 : l.length = pre.length + (r.length + 1) := by rw [h]; simp
    obtain ⟨y, ey, _⟩ := ix_lt (l := v) (i := (pre.length : Int)) (by omega) (by omega)
    rw [m_laws_toStringS_l3, List.length_map, decide_eq_true (by omega)]
    simp only [cond_true, ei, Option.bind_some, ey, wln pre x (by omega), Int.toNat_natCast]) (fun k v => by
    rw [m_laws_toStringS_l3, List.length_map, decide_eq_false (by omega)]; rfl) l [] n _ rfl (by omega) (len_cp _ _) rfl
theorem toIntS_ {n : Nat} {l : List Int} (h : l.length ≤ 1048576) (hn : 1100000 ≤ n) : m_laws_toIntS n l = some l := by
  unfold m_laws_toIntS
  rw [List.length_map, gp_pos (by omega)]
  exact loop_copy l (m_laws_toIntS_l3 l) some (fun k pre x r v h hv => by
    have ei : ix l (pre.length : Int) = some x := by rw [h, ixp]
    have hl2 : l.length = pre.length + (r.length + 1) := by rw [h]; simp
    obtain ⟨y, ey, _⟩ := ix_lt (l := v) (i := (pre.length : Int)) (by omega) (by omega)
    rw [m_laws_toIntS_l3, List.length_map, decide_eq_true (by omega)]
    simp only [cond_true, ei, Option.bind_some, ey, wln pre x (by omega), Int.toNat_natCast]) (fun k v => by
    rw [m_laws_toIntS_l3, List.length_map, decide_eq_false (by omega)]; rfl) l [] n _ rfl (by omega) (len_cp _ _) rfl
theorem toProdS_ {n : Nat} {l : List gProd} (h : l.length ≤ 1048576) (hr : ∀ x ∈ l, x.right_.length ≤ 1048576) (hn : 1100000 ≤ n) : m_laws_toProdS n l = some l := by
  unfold m_laws_toProdS
  rw [List.length_map, gp_pos (by omega)]
  exact loop_copy l (m_laws_toProdS_l3 n l) some (fun k pre x r v h hv => by
    have ei : ix l (pre.length : Int) = some x := by rw [h, ixp]
    have hl2 : l.length = pre.length + (r.length + 1) := by rw [h]; simp
    obtain ⟨y, ey, _⟩ := ix_lt (l := v) (i := (pre.length : Int)) (by omega) (by omega)
    rw [m_laws_toProdS_l3, List.length_map, decide_eq_true (by omega)]
    have e1 : m_laws_toProd n x = some x := by unfold m_laws_toProd; rw [toIntS_ (hr x (ix_mem ei)) hn]; rfl
    simp only [cond_true, ei, Option.bind_some, e1, ey, wln pre x (by omega), Int.toNat_natCast]) (fun k v => by
    rw [m_laws_toProdS_l3, List.length_map, decide_eq_false (by omega)]; rfl) l [] n _ rfl (by omega) (len_cp _ _) rfl
theorem toBnf_ {n : Nat} {b : gBnf} (h : BS b) (hn : 1100000 ≤ n) : m_laws_toBnf n b = some b := by
  unfold m_laws_toBnf
  rw [toTermS_ h.t hn, toStringS_ h.s hn, toProdS_ h.p h.r hn]; rfl
theorem allP_true {α : Type} : ∀ (r pre : List α), allP (fun _ _ => true) pre r = true
  | [], _ => rfl
  | x :: r, pre => by simp only [allP, allP_true r, Bool.and_self]
theorem eqIntS_ {n : Nat} {l : List Int} (h : l.length ≤ 1048576) (hn : 1100000 ≤ n) : m_laws_eqIntS n l l = some true := by
  unfold m_laws_eqIntS
  rw [bne_self_eq_false, cond_false, loop_all0 l (fun _ _ => true) (some false) (m_laws_eqIntS_l3 l l) (some true) n (by omega) (fun k pre x r h => by
    have ei : ix l (pre.length : Int) = some x := by rw [h, ixp]
    have hl2 : l.length = pre.length + (r.length + 1) := by rw [h]; simp
    rw [m_laws_eqIntS_l3, List.length_map, decide_eq_true (by omega)]
    simp only [cond_true, ei, Option.bind_some, bne_self_eq_false, cond_false, wln pre x (by omega)]) (fun k => by
    rw [m_laws_eqIntS_l3, List.length_map, decide_eq_false (by omega)]; rfl), allP_true]; rfl
theorem eqStringS_ {n : Nat} {l : List ByteArray} (h : l.length ≤ 1048576) (hn : 1100000 ≤ n) : m_laws_eqStringS n l l = some true := by
  unfold m_laws_eqStringS
  rw [bne_self_eq_false, cond_false, loop_all0 l (fun _ _ => true) (some false) (m_laws_eqStringS_l3 l l) (some true) n (by omega) (fun k pre x r h => by
    have ei : ix l (pre.length : Int) = some x := by rw [h, ixp]
    have hl2 : l.length = pre.length + (r.length + 1) := by rw [h]; simp
    rw [m_laws_eqStringS_l3, List.length_map, decide_eq_true (by omega)]
    simp only [cond_true, ei, Option.bind_some, decide_true, Bool.not_true, cond_false, wln pre x (by omega)]) (fun k => by
    rw [m_laws_eqStringS_l3, List.length_map, decide_eq_false (by omega)]; rfl), allP_true]; rfl
theorem eqTermS_ {n : Nat} {l : List gTerm} (h : l.length ≤ 1048576) (hn : 1100000 ≤ n) : m_laws_eqTermS n l l = some true := by
  unfold m_laws_eqTermS
  rw [bne_self_eq_false, cond_false, loop_all0 l (fun _ _ => true) (some false) (m_laws_eqTermS_l3 n l l) (some true) n (by omega) (fun k pre x r h => by
    have ei : ix l (pre.length : Int) = some x := by rw [h, ixp]
    have hl2 : l.length = pre.length + (r.length + 1) := by rw [h]; simp
    rw [m_laws_eqTermS_l3, List.length_map, decide_eq_true (by omega)]
    have e1 : m_laws_eqTerm n x x = some true := by unfold m_laws_eqTerm; simp
    simp only [cond_true, ei, Option.bind_some, e1, Bool.not_true, cond_false, wln pre x (by omega)]) (fun k => by
    rw [m_laws_eqTermS_l3, List.length_map, decide_eq_false (by omega)]; rfl), allP_true]; rfl
theorem eqProdS_ {n : Nat} {l : List gProd} (h : l.length ≤ 1048576) (hr : ∀ x ∈ l, x.right_.length ≤ 1048576) (hn : 1100000 ≤ n) : m_laws_eqProdS n l l = some true := by
  unfold m_laws_eqProdS
  rw [bne_self_eq_false, cond_false, loop_all0 l (fun _ _ => true) (some false) (m_laws_eqProdS_l3 n l l) (some true) n (by omega) (fun k pre x r h => by
    have ei : ix l (pre.length : Int) = some x := by rw [h, ixp]
    have hl2 : l.length = pre.length + (r.length + 1) := by rw [h]; simp
    rw [m_laws_eqProdS_l3, List.length_map, decide_eq_true (by omega)]
    have e1 : m_laws_eqProd n x x = some true := by unfold m_laws_eqProd; rw [eqIntS_ (hr x (ix_mem ei)) hn]; simp
    simp only [cond_true, ei, Option.bind_some, e1, Bool.not_true, cond_false, wln pre x (by omega)]) (fun k => by
    rw [m_laws_eqProdS_l3, List.length_map, decide_eq_false (by omega)]; rfl), allP_true]; rfl
theorem eqBnf_ {n : Nat} {b : gBnf} (h : BS b) (hn : 1100000 ≤ n) : m_laws_eqBnf n b b = some true := by
  unfold m_laws_eqBnf
  rw [eqTermS_ h.t hn, eqStringS_ h.s hn, eqProdS_ h.p h.r hn]; simp
end Go.Proofs.Ytnnalcglfgapbaa.Z
