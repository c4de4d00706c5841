/- Derivations: what is good, plain. -/
import Derived.Test.YtnnalcglfgapbaaGdC
set_option linter.unusedVariables false
set_option linter.unusedSectionVars false
set_option linter.unusedSimpArgs false
namespace Go.Proofs.Ytnnalcglfgapbaa.Z
open Go Go.RowKit Go.Proofs.Sy Go.Proofs
set_option maxRecDepth 100000
/-- Kids beside the symbols. -/
inductive KR (P : gpnode → Prop) (T : Int) : List Int → List (Option gpnode) → Prop
  | nil : KR P T [] []
  | term {x r ks} : x < T → KR P T r ks → KR P T (x :: r) (none :: ks)
  | non {x r k ks} : T ≤ x → P k → KR P T r ks → KR P T (x :: r) (some k :: ks)
theorem rdL_KR {sp : Int → Int → Option (gpnode × Int)} {T : Int} {P : gpnode → Prop} (h : ∀ a s k, sp a s = some k → P k.1) : ∀ (r : List Int) (a : Int) (ks : List (Option gpnode) × Int), rdL sp T r a = some ks → KR P T r ks.1
  | [], a, ks, e => by cases e; exact .nil
  | x :: r, a, ks, e => by
    rw [rdL] at e
    by_cases c : x ≥ T
    · rw [decide_eq_true c, cond_true] at e
      obtain ⟨k, hk, e⟩ := Option.bind_eq_some_iff.mp e
      obtain ⟨q, hq, e⟩ := Option.bind_eq_some_iff.mp e
      cases e
      exact .non c (h _ _ _ hk) (rdL_KR h r _ q hq)
    · rw [decide_eq_false c, cond_false] at e
      obtain ⟨q, hq, e⟩ := Option.bind_eq_some_iff.mp e
      cases e
      exact .term (by omega) (rdL_KR h r _ q hq)
section
variable (b : gBnf) (val : gpnode → Bool)
def pOf (k : gpnode) : gProd := (ix b.prods_ k.prod_).getD ⟨0, [], ⟨#[]⟩, 0, 0⟩
def wz (p : gProd) (as_ : Int) (o : Option gpnode) : Bool := match o with
  | none => false
  | some k => (decide ((pOf b k).level_ > 0) && decide ((pOf b k).level_ < p.level_)) || ((pOf b k).level_ == p.level_ && p.assoc_ != as_)
def vz (o : Option gpnode) : Bool := match o with
  | none => true
  | some k => val k
/-- Is nothing wrong at this place? -/
def ck (p : gProd) (len i : Int) (z : Int × Option gpnode) : Bool := !((i == 0 || i == len - 1) && (z.1 == p.left_ && (decide (p.level_ > 0) && wz b p (bif decide (i > 0) then 2 else 1) z.2)))
def cs (p : gProd) (len : Int) (pre : List (Int × Option gpnode)) (z : Int × Option gpnode) : Bool := match z.2 with
  | none => true
  | some k => ck b p len (pre.length : Int) z && val k
end
theorem KR_zip {P : gpnode → Prop} {T : Int} {r : List Int} {ks : List (Option gpnode)} (h : KR P T r ks) : r = (r.zip ks).map (·.1) ∧ ks = (r.zip ks).map (·.2) ∧ ∀ z ∈ r.zip ks, match z.2 with | none => z.1 < T | some k => T ≤ z.1 ∧ P k := by
  induction h with
  | nil => simp
  | term h1 _ ih =>
    obtain ⟨i1, i2, i3⟩ := ih
    refine ⟨by simp only [List.zip_cons_cons, List.map_cons]; rw [← i1], by simp only [List.zip_cons_cons, List.map_cons]; rw [← i2], fun z hz => ?_⟩
    rcases List.mem_cons.mp hz with rfl | hz
    · exact h1
    · exact i3 z hz
  | non h1 h2 _ ih =>
    obtain ⟨i1, i2, i3⟩ := ih
    refine ⟨by simp only [List.zip_cons_cons, List.map_cons]; rw [← i1], by simp only [List.zip_cons_cons, List.map_cons]; rw [← i2], fun z hz => ?_⟩
    rcases List.mem_cons.mp hz with rfl | hz
    · exact ⟨h1, h2⟩
    · exact i3 z hz
/-- A kid both sides know. -/
structure KP (b : gBnf) (n : Nat) (val : gpnode → Bool) (k : gpnode) : Prop where
  p : ix b.prods_ k.prod_ = some (pOf b k)
  s : m_spec_l06Good n b (conv k) = some (val k)
  i : m_impl_good n b (some k) = some (val k)
theorem goodS {b : gBnf} (hb : Bk_ b) {n : Nat} (hn : 100 ≤ n) (val : gpnode → Bool) {p : gProd} (hp : p ∈ b.prods_) {x : Int} (hx : ix b.prods_ x = some p) {ks : List (Option gpnode)} (h : KR (KP b n val) b.terms_.length p.right_ ks) :
    m_spec_l06Good (n + 1) b (conv ⟨x, ks⟩) = some (allP (cs b val p p.right_.length) [] (p.right_.zip ks)) := by
  obtain ⟨z1, z2, z3⟩ := KR_zip h
  have h12 := hb.r p hp
  have hT := hb.t
  have hN := hb.s
  rw [m_spec_l06Good]
  have e0 : (conv ⟨x, ks⟩).prod_ = x := by simp [conv]
  rw [e0, hx, Option.bind_some]
  have ek : (conv ⟨x, ks⟩).kids_ = convL ks := by simp [conv]
  generalize hnd : conv ⟨x, ks⟩ = nd at ek
  generalize hZ : p.right_.zip ks = Z at z1 z2 z3
  have hlen : p.right_.length = Z.length := by have := congrArg List.length z1; simpa using this
  have := loop_allS Z (cs b val p p.right_.length) (some false) (fun pre => ((convL (pre.map (·.2))).length : Int)) (fun k i c => m_spec_l06Good_l38 (m_spec_l06Good n) n b nd p k c i) (some true) (fun k pre z r hz => by
    have hl2 : Z.length = pre.length + (r.length + 1) := by rw [hz]; simp
    have er : ix p.right_ (pre.length : Int) = some z.1 := by
      rw [z1, hz, List.map_append, List.map_cons]
      have := ixp (pre.map (·.1)) z.1 (r.map (·.1))
      rwa [List.length_map] at this
    have hy := hb.y p hp z.1 (ix_mem er)
    have hzz := z3 z (by rw [hz]; simp)
    show m_spec_l06Good_l38 (m_spec_l06Good n) n b nd p (k + 1) _ _ = _
    rw [m_spec_l06Good_l38, List.length_map, decide_eq_true (by omega)]
    simp only [cond_true, er, Option.bind_some, m_spec_l04Non, List.length_map]
    rw [wid (n := z.1 - (b.terms_.length : Int)) (by omega)]
    cases hz2 : z.2 with
    | none =>
      rw [hz2] at hzz
      rw [decide_eq_true (show z.1 - (b.terms_.length : Int) < 0 by simp at hzz; omega)]
      simp only [cond_true, m_spec_l06Good_j42, wln pre z (by omega), cs, hz2, List.map_append, List.map_cons, List.map_nil, convL_app, convL, convO, List.append_nil]
    | some q =>
      rw [hz2] at hzz
      obtain ⟨hq1, hq2⟩ := hzz
      rw [decide_eq_false (show ¬ z.1 - (b.terms_.length : Int) < 0 by omega)]
      have hcl : (convL (pre.map (·.2))).length ≤ pre.length := by have := convL_len (pre.map (·.2)); rwa [List.length_map] at this
      have ekid : ix nd.kids_ ((convL (pre.map (·.2))).length : Int) = some (conv q) := by
        rw [ek, z2, hz, List.map_append, List.map_cons, hz2, convL_app]
        exact ixp _ _ _
      have epr : (conv q).prod_ = q.prod_ := by cases q; simp [conv]
      have w1 : wr .i64 ((p.right_.length : Int) - 1) = (p.right_.length : Int) - 1 := wid (by omega)
      have j45 : m_spec_l06Good_j45 (m_spec_l06Good n) b nd ((convL (pre.map (·.2))).length : Int) (pre.length : Int) (m_spec_l06Good_l38 (m_spec_l06Good n) n b nd p k) = bif val q then m_spec_l06Good_l38 (m_spec_l06Good n) n b nd p k ((convL ((pre ++ [z]).map (·.2))).length : Int) ((pre ++ [z]).length : Int) else some false := by
        have w2 : wr .i64 (((convL (pre.map (·.2))).length : Int) + 1) = ((convL ((pre ++ [z]).map (·.2))).length : Int) := by
          rw [wid (by omega), List.map_append, convL_app]; simp [hz2, convL, convO]
        rw [m_spec_l06Good_j45, ekid, Option.bind_some, hq2.s, Option.bind_some, m_spec_l06Good_j42, w2, wln pre z (by omega)]
        cases val q <;> rfl
      simp only [cond_false, ekid, Option.bind_some, epr, hq2.p, w1]
      have j44 : ∀ (v : Bool) (as_ : Int), m_spec_l06Good_j44 (m_spec_l06Good n) b nd p ((convL (pre.map (·.2))).length : Int) (pre.length : Int) (m_spec_l06Good_l38 (m_spec_l06Good n) n b nd p k) (pOf b q) v as_ = bif !(v && (z.1 == p.left_ && (decide (p.level_ > 0) && wz b p as_ (some q)))) then m_spec_l06Good_j45 (m_spec_l06Good n) b nd ((convL (pre.map (·.2))).length : Int) (pre.length : Int) (m_spec_l06Good_l38 (m_spec_l06Good n) n b nd p k) else some false := fun v as_ => by
        rw [m_spec_l06Good_j44, er]
        simp only [Option.bind_some, wz]
        cases v with
        | false => rfl
        | true =>
          cases (z.1 == p.left_) with
          | false => rfl
          | true =>
            by_cases c1 : p.level_ > 0
            · rw [decide_eq_true c1]
              by_cases c2 : (pOf b q).level_ > 0
              · rw [decide_eq_true c2]
                by_cases c3 : (pOf b q).level_ < p.level_
                · rw [decide_eq_true c3]; rfl
                · rw [decide_eq_false c3]
                  cases ((pOf b q).level_ == p.level_) <;> cases (p.assoc_ != as_) <;> rfl
              · rw [decide_eq_false c2]
                have : ((pOf b q).level_ == p.level_) = false := by simp; omega
                rw [this]; rfl
            · rw [decide_eq_false c1]; rfl
      have j43 : ∀ v : Bool, m_spec_l06Good_j43 (m_spec_l06Good n) b nd p ((convL (pre.map (·.2))).length : Int) (pre.length : Int) (m_spec_l06Good_l38 (m_spec_l06Good n) n b nd p k) (pOf b q) v = m_spec_l06Good_j44 (m_spec_l06Good n) b nd p ((convL (pre.map (·.2))).length : Int) (pre.length : Int) (m_spec_l06Good_l38 (m_spec_l06Good n) n b nd p k) (pOf b q) v (bif decide ((pre.length : Int) > 0) then 2 else 1) := fun v => by
        rw [m_spec_l06Good_j43]; cases decide ((pre.length : Int) > 0) <;> rfl
      rw [j43, j43, j44, j44, j45]
      simp only [cs, hz2, ck]
      cases ((pre.length : Int) == 0) <;> cases ((pre.length : Int) == (p.right_.length : Int) - 1) <;> cases (z.1 == p.left_ && (decide (p.level_ > 0) && wz b p (bif decide ((pre.length : Int) > 0) then 2 else 1) (some q))) <;> cases val q <;> rfl) (fun k => by
    show m_spec_l06Good_l38 (m_spec_l06Good n) n b nd p (k + 1) _ _ = _
    rw [m_spec_l06Good_l38, List.length_map, decide_eq_false (by omega)]; rfl) Z [] n rfl (by omega)
  refine Eq.trans this ?_
  rw [hlen]
  cases allP _ [] Z <;> rfl
theorem good1 {b : gBnf} {n : Nat} {val : gpnode → Bool} (p : gProd) (as_ : Int) (o : Option gpnode) (ho : ∀ k, o = some k → KP b n val k) : m_impl_good_1 n o as_ b p = some (wz b p as_ o, b, p) := by
  unfold m_impl_good_1
  cases o with
  | none => rfl
  | some k =>
    have := (ho k rfl).p
    simp only [optc, Option.bind_some, this, wz]
    cases decide ((pOf b k).level_ > 0) <;> cases decide ((pOf b k).level_ < p.level_) <;> cases ((pOf b k).level_ == p.level_) <;> simp
theorem goodI {b : gBnf} (hb : Bk_ b) {n : Nat} (hn : 100 ≤ n) (val : gpnode → Bool) {p : gProd} (hp : p ∈ b.prods_) {x : Int} (hx : ix b.prods_ x = some p) {ks : List (Option gpnode)} (h : KR (KP b n val) b.terms_.length p.right_ ks) :
    m_impl_good (n + 1) b (some ⟨x, ks⟩) = some (allP (cs b val p p.right_.length) [] (p.right_.zip ks)) := by
  obtain ⟨z1, z2, z3⟩ := KR_zip h
  have h12 := hb.r p hp
  have hks : ks.length = p.right_.length := by
    have a1 := congrArg List.length z1; have a2 := congrArg List.length z2
    simp only [List.length_map] at a1 a2; omega
  have hkp : ∀ o ∈ ks, ∀ k, o = some k → KP b n val k := fun o ho k hk => by
    rw [z2] at ho
    obtain ⟨z, hz, rfl⟩ := List.mem_map.mp ho
    have := z3 z hz
    rw [hk] at this
    exact this.2
  -- the kids' loop
  have j3 : m_impl_good_j3 (m_impl_good n) n (some ⟨x, ks⟩) b = some (ks.all (vz val)) := by
    unfold m_impl_good_j3
    rw [Option.bind_some, loop_all0 ks (fun _ o => vz val o) (some false) (m_impl_good_l6 (m_impl_good n) b ⟨x, ks⟩) (some true) n (by omega) (fun k pre o r hz => by
      have hl2 : ks.length = pre.length + (r.length + 1) := by rw [hz]; simp
      have er : ix ks (pre.length : Int) = some o := by rw [hz, ixp]
      rw [m_impl_good_l6, gpnode_encM_len, decide_eq_true (by show (pre.length : Int) < (ks.length : Int); omega)]
      simp only [cond_true, er, Option.bind_some, wln pre o (by omega)]
      cases o with
      | none => rfl
      | some q =>
        have := (hkp (some q) (ix_mem er) q rfl).i
        simp only [optc, this, Option.bind_some, vz]
        cases val q <;> rfl) (fun k => by
      rw [m_impl_good_l6, gpnode_encM_len, decide_eq_false (by show ¬ (ks.length : Int) < (ks.length : Int); omega)]; rfl), allP_all]
    cases ks.all (vz val) <;> rfl
  rw [m_impl_good, Option.bind_some]
  show (ix b.prods_ x).bind _ = _
  rw [hx, Option.bind_some, List.length_map]
  -- the ends
  generalize hZ : p.right_.zip ks = Z at z1 z2 z3
  have hlen : p.right_.length = Z.length := by have := congrArg List.length z1; simpa using this
  have split : ∀ (r pre : List (Int × Option gpnode)), Z = pre ++ r → allP (cs b val p p.right_.length) pre r = (allP (fun pre z => match z.2 with | none => true | some _ => ck b p p.right_.length (pre.length : Int) z) pre r && r.all (fun z => vz val z.2)) := by
    intro r
    induction r with
    | nil => intro pre _; rfl
    | cons z r ih =>
      intro pre e
      simp only [allP, List.all_cons, ih (pre ++ [z]) (by rw [e]; simp)]
      cases hz2 : z.2 with
      | none => simp [cs, hz2, vz]
      | some q =>
        simp only [cs, hz2, vz]
        cases ck b p p.right_.length (pre.length : Int) z <;> cases val q <;> simp
  rw [split Z [] rfl]
  have hall : ks.all (vz val) = Z.all (fun z => vz val z.2) := by
    conv => lhs; rw [z2]
    rw [List.all_map]; rfl
  have ckn : ∀ (i : Int) (a : Int), ck b p p.right_.length i (a, none) = true := fun i a => by simp [ck, wz]
  have hck : allP (fun pre z => match z.2 with | none => true | some _ => ck b p p.right_.length (pre.length : Int) z) [] Z = allP (fun pre z => ck b p p.right_.length (pre.length : Int) z) [] Z := allP_congr (fun pre z r _ => by
    obtain ⟨a, o⟩ := z
    cases o with
    | none => exact (ckn _ a).symm
    | some q => rfl) Z [] rfl
  rw [hck]
  cases hv : (decide (p.level_ > 0)) with
  | false =>
    have : allP (fun pre z => ck b p p.right_.length (pre.length : Int) z) [] Z = true := by
      rw [allP_congr (q' := fun _ _ => true) (fun pre z r _ => by simp [ck, hv]) Z [] rfl, allP_true]
    rw [this]
    simp only [cond_false, m_impl_good_j7, j3, hall, Bool.true_and]
  | true =>
    cases hZ2 : Z with
    | nil =>
      have : p.right_.length = 0 := by rw [hlen, hZ2]; rfl
      rw [decide_eq_false (by omega)]
      simp only [cond_true, m_impl_good_j7, cond_false, j3, hall, hZ2]
      rfl
    | cons z0 rest =>
      have hpos : p.right_.length = rest.length + 1 := by rw [hlen, hZ2]; rfl
      have er0 : ix p.right_ 0 = some z0.1 := by rw [z1, hZ2]; rfl
      have ek0 : ix ks 0 = some z0.2 := by rw [z2, hZ2]; rfl
      have c0 : ck b p p.right_.length 0 z0 = !(z0.1 == p.left_ && wz b p 1 z0.2) := by simp [ck, hv]
      rw [decide_eq_true (by omega)]
      simp only [cond_true, m_impl_good_j7, er0, Option.bind_some]
      -- the last
      have j8 : m_impl_good_j8 (m_impl_good n) n (some ⟨x, ks⟩) p b p = some (allP (fun pre z => ck b p p.right_.length (pre.length : Int) z) [z0] rest && ks.all (vz val)) := by
        rw [m_impl_good_j8, List.length_map]
        rcases List.eq_nil_or_concat rest with hr | ⟨m, zl, hr⟩
        · rw [hr] at hpos ⊢
          rw [decide_eq_false (by simp at hpos; omega), cond_false, j3]; rfl
        · rw [List.concat_eq_append] at hr
          have hl2 : p.right_.length = (z0 :: m).length + 1 := by rw [hpos, hr]; simp
          have hZ3 : Z = (z0 :: m) ++ [zl] := by rw [hZ2, hr]; rfl
          have w : wr .i64 ((p.right_.length : Int) - 1) = ((z0 :: m).length : Int) := (wid (by omega)).trans (by omega)
          have erl : ix p.right_ ((z0 :: m).length : Int) = some zl.1 := by
            rw [z1, hZ3, List.map_append]
            have := ixp ((z0 :: m).map (·.1)) zl.1 []
            rwa [List.length_map] at this
          have ekl : ix ks ((z0 :: m).length : Int) = some zl.2 := by
            rw [z2, hZ3, List.map_append]
            have := ixp ((z0 :: m).map (·.2)) zl.2 []
            rwa [List.length_map] at this
          have hmid : ∀ (r pre : List (Int × Option gpnode)), 1 ≤ pre.length → pre.length + r.length = (z0 :: m).length → allP (fun pre z => ck b p p.right_.length (pre.length : Int) z) pre (r ++ [zl]) = ck b p p.right_.length ((z0 :: m).length : Int) zl := by
            intro r
            induction r with
            | nil => intro pre h1 h2; simp only [List.nil_append, allP, Bool.and_true]; congr 1; simp at h2; simp; omega
            | cons y r ih =>
              intro pre h1 h2
              have : ck b p p.right_.length (pre.length : Int) y = true := by
                have a1 : ((pre.length : Int) == 0) = false := by rw [beq_eq_false_iff_ne]; omega
                have a2 : ((pre.length : Int) == (p.right_.length : Int) - 1) = false := by
                  rw [beq_eq_false_iff_ne]
                  intro e
                  have e1 : pre.length + (r.length + 1) = m.length + 1 := h2
                  have e2 : p.right_.length = m.length + 1 + 1 := hl2
                  omega
                simp [ck, a1, a2]
              simp only [List.cons_append, allP, this, Bool.true_and]
              exact ih (pre ++ [y]) (by simp) (by simp at h2 ⊢; omega)
          rw [hr, hmid m [z0] (by simp) (by simp; omega)]
          have cl : ck b p p.right_.length ((z0 :: m).length : Int) zl = !(zl.1 == p.left_ && wz b p 2 zl.2) := by
            have a2 : (((z0 :: m).length : Int) == (p.right_.length : Int) - 1) = true := by simp at hl2 ⊢; omega
            have a3 : decide (((z0 :: m).length : Int) > 0) = true := by simp
            simp only [ck, a2, a3, hv, Bool.or_true, Bool.true_and, cond_true]
          rw [cl, decide_eq_true (by simp at hl2; omega), cond_true, w, erl, Option.bind_some]
          cases (zl.1 == p.left_) with
          | false => simp only [cond_false, j3]; rfl
          | true =>
            simp only [cond_true, Option.bind_some]
            show (ix ks _).bind _ = _
            rw [ekl, Option.bind_some, good1 p 2 zl.2 (fun k hk => hkp zl.2 (ix_mem ekl) k hk), Option.bind_some]
            cases wz b p 2 zl.2 with
            | true => rfl
            | false => simp only [cond_false, j3]; rfl
      simp only [allP, List.nil_append, List.length_nil]
      show _ = some ((ck b p p.right_.length ((0 : Nat) : Int) z0 && _) && _)
      rw [show (((0 : Nat) : Int)) = 0 from rfl, c0, ← hZ2, ← hall]
      cases (z0.1 == p.left_) with
      | false => simp only [cond_false, j8]; rfl
      | true =>
        simp only [cond_true, Option.bind_some]
        show (ix ks 0).bind _ = _
        rw [ek0, Option.bind_some, good1 p 1 z0.2 (fun k hk => hkp z0.2 (ix_mem ek0) k hk), Option.bind_some]
        cases wz b p 1 z0.2 with
        | true => rfl
        | false => simp only [cond_false, j8]; rfl
/-- Of a derivation that was read both say the same. -/
theorem good_same {b : gBnf} (hb : Bk_ b) {d : List Int} : ∀ (f n : Nat), f + 200 ≤ n → ∀ (a s : Int) (k : gpnode × Int), rd b d f a s = some k → (∃ p, ix b.prods_ k.1.prod_ = some p) ∧ ∃ v, m_spec_l06Good n b (conv k.1) = some v ∧ m_impl_good n b (some k.1) = some v
  | 0, n, hn, a, s, k, h => by cases h
  | f + 1, n, hn, a, s, k, h => by
    obtain ⟨n, rfl⟩ : ∃ m, n = m + 1 := ⟨n - 1, by omega⟩
    rw [rd] at h
    obtain ⟨x, hx, h⟩ := Option.bind_eq_some_iff.mp h
    obtain ⟨p, hp, h⟩ := Option.bind_eq_some_iff.mp h
    cases hl : (p.left_ == s) with
    | false => rw [hl] at h; cases h
    | true =>
      rw [hl, cond_true] at h
      obtain ⟨ks, hks, h⟩ := Option.bind_eq_some_iff.mp h
      cases h
      refine ⟨⟨p, hp⟩, ?_⟩
      have hkr : KR (KP b n (fun k => (m_spec_l06Good n b (conv k)).getD false)) b.terms_.length p.right_ ks.1 := rdL_KR (fun a s k hk => by
        obtain ⟨⟨q, hq⟩, v, h1, h2⟩ := good_same hb f n (by omega) a s k hk
        exact ⟨by unfold pOf; rw [hq]; rfl, by simp [h1], by simp [h1, h2]⟩) p.right_ _ ks hks
      exact ⟨_, goodS hb (by omega) _ (ix_mem hp) hp hkr, goodI hb (by omega) _ (ix_mem hp) hp hkr⟩
end Go.Proofs.Ytnnalcglfgapbaa.Z
