/- Terms: their form. -/
import Derived.Test.YtegpjjnedbbpjaaTnA
set_option linter.unusedVariables false
set_option linter.unusedSimpArgs false
namespace Go.Proofs.Ytegpjjnedbbpjaa.Z
open Go Go.RowKit Go.Proofs.Sy Go.Proofs
set_option maxRecDepth 100000
def arity (n : ByteArray) : Int := if n = (⟨#[76, 97, 109]⟩ : ByteArray) then 2 else if n = (⟨#[65, 112, 112]⟩ : ByteArray) then 2 else if n = (⟨#[76, 101, 116]⟩ : ByteArray) then 3 else if n = (⟨#[73, 102]⟩ : ByteArray) then 3 else if n = (⟨#[65, 100, 100]⟩ : ByteArray) then 2 else if n = (⟨#[69, 113]⟩ : ByteArray) then 2 else 0
def leafF (n t : ByteArray) : Bool := if n = (⟨#[73, 100]⟩ : ByteArray) then nameOK t else if n = (⟨#[78, 117, 109]⟩ : ByteArray) then numOK t else if n = (⟨#[89, 101, 115]⟩ : ByteArray) ∨ n = (⟨#[78, 111]⟩ : ByteArray) then decide (t = ⟨#[]⟩) else false
mutual
def termF : Tree → Bool
  | ⟨n, t, l, ks⟩ => if l = true then leafF n t else decide (arity n ≠ 0) && decide ((ks.length : Int) = arity n) && (if n = (⟨#[76, 97, 109]⟩ : ByteArray) ∨ n = (⟨#[76, 101, 116]⟩ : ByteArray) then termB ks else termL ks)
def termB : List Tree → Bool
  | [] => false
  | k :: ks => isId k && termL ks
def termL : List Tree → Bool
  | [] => true
  | k :: ks => termF k && termL ks
end
theorem termF_eq (t : Tree) : termF t = if t.lf = true then leafF t.nm t.tx else decide (arity t.nm ≠ 0) && decide ((t.ks.length : Int) = arity t.nm) && (if t.nm = (⟨#[76, 97, 109]⟩ : ByteArray) ∨ t.nm = (⟨#[76, 101, 116]⟩ : ByteArray) then termB t.ks else termL t.ks) := by cases t; simp only [termF]
def restF (t : Tree) (i : Int) : Bool := if i = 0 ∧ (t.nm = (⟨#[76, 97, 109]⟩ : ByteArray) ∨ t.nm = (⟨#[76, 101, 116]⟩ : ByteArray)) then termB t.ks else termL (t.ks.drop i.toNat)
theorem get_arity (n : ByteArray) : mget (mput (mput (mput (mput (mput (mput [] (.string (⟨#[76, 97, 109]⟩ : ByteArray)) (I 2)) (.string (⟨#[65, 112, 112]⟩ : ByteArray)) (I 2)) (.string (⟨#[76, 101, 116]⟩ : ByteArray)) (I 3)) (.string (⟨#[73, 102]⟩ : ByteArray)) (I 3)) (.string (⟨#[65, 100, 100]⟩ : ByteArray)) (I 2)) (.string (⟨#[69, 113]⟩ : ByteArray)) (I 2)) (.string n) = if arity n = 0 then none else some (I (arity n)) := by
  have k0 := keys_nil (d := .string)
  have k1 := keys_put (k := .string (⟨#[76, 97, 109]⟩ : ByteArray)) (y := I 2) k0 trivial
  have k2 := keys_put (k := .string (⟨#[65, 112, 112]⟩ : ByteArray)) (y := I 2) k1 trivial
  have k3 := keys_put (k := .string (⟨#[76, 101, 116]⟩ : ByteArray)) (y := I 3) k2 trivial
  have k4 := keys_put (k := .string (⟨#[73, 102]⟩ : ByteArray)) (y := I 3) k3 trivial
  have k5 := keys_put (k := .string (⟨#[65, 100, 100]⟩ : ByteArray)) (y := I 2) k4 trivial
  rw [mget_str k5, mget_str k4, mget_str k3, mget_str k2, mget_str k1, mget_str k0, mget_nil]
  by_cases h1 : n = (⟨#[76, 97, 109]⟩ : ByteArray)
  · subst h1; rfl
  by_cases h2 : n = (⟨#[65, 112, 112]⟩ : ByteArray)
  · subst h2; rfl
  by_cases h3 : n = (⟨#[76, 101, 116]⟩ : ByteArray)
  · subst h3; rfl
  by_cases h4 : n = (⟨#[73, 102]⟩ : ByteArray)
  · subst h4; rfl
  by_cases h5 : n = (⟨#[65, 100, 100]⟩ : ByteArray)
  · subst h5; rfl
  by_cases h6 : n = (⟨#[69, 113]⟩ : ByteArray)
  · subst h6; rfl
  have h0 : arity n = 0 := by unfold arity; rw [if_neg h1, if_neg h2, if_neg h3, if_neg h4, if_neg h5, if_neg h6]
  rw [if_pos h0, if_neg (fun e => h6 e.symm), if_neg (fun e => h5 e.symm), if_neg (fun e => h4 e.symm), if_neg (fun e => h3 e.symm), if_neg (fun e => h2 e.symm), if_neg (fun e => h1 e.symm)]
theorem iTermForm (t : Tree) (hw : wt t ≤ 1099511627776) : FnP Try.prog 187 [t.enc] [B (termF t)] := by
  have ih : ∀ k, k ∈ t.ks → FnP Try.prog 187 [k.enc] [B (termF k)] := fun k hk => iTermForm k (by have := wt_kid hk; omega)
  have hl := wt_len t
  have hww := wt_eq t
  have he : (encM t.ks).length = t.ks.length := encM_len _
  rw [termF_eq]
  refine fn_intro Try.func187 rfl rfl rfl ?_
  refine And.intro (fun c0 => ?_) (fun c0 => ?_)
  · rw [if_pos c0]
    repeat' first
      | (refine And.intro (fun c => ?_) (fun c => ?_) <;> first | exact absurd c (by decide) | (cases c; done) | (simp only [decide_eq_true_eq, decide_eq_false_iff_not] at c) | skip)
      | refine callA (iName _ (by omega)) ?_
      | refine callA (iNum _ (by omega)) ?_
      | fail
    all_goals exact ⟨[], ⟨trivial, rfl⟩, congrArg (fun x => [AV.p (B x)]) (by rw [leafF]; grind), rfl⟩
  · rw [if_neg (by rw [c0]; simp)]
    have k0 := keys_nil (d := .string)
    have k1 := keys_put (k := .string (⟨#[76, 97, 109]⟩ : ByteArray)) (y := I 2) k0 trivial
    have k2 := keys_put (k := .string (⟨#[65, 112, 112]⟩ : ByteArray)) (y := I 2) k1 trivial
    have k3 := keys_put (k := .string (⟨#[76, 101, 116]⟩ : ByteArray)) (y := I 3) k2 trivial
    have k4 := keys_put (k := .string (⟨#[73, 102]⟩ : ByteArray)) (y := I 3) k3 trivial
    have k5 := keys_put (k := .string (⟨#[65, 100, 100]⟩ : ByteArray)) (y := I 2) k4 trivial
    have k6 := keys_put (k := .string (⟨#[69, 113]⟩ : ByteArray)) (y := I 2) k5 trivial
    refine And.intro ⟨k0, trivial⟩ (And.intro ⟨k1, trivial⟩ (And.intro ⟨k2, trivial⟩ (And.intro ⟨k3, trivial⟩ (And.intro ⟨k4, trivial⟩ (And.intro ⟨k5, trivial⟩ ?_)))))
    refine And.intro ⟨k6, trivial⟩ (And.intro (fun y hy => ?_) (fun hy => ?_))
    · rw [get_arity] at hy
      by_cases h0 : arity t.nm = 0
      · rw [if_pos h0] at hy; cases hy
      rw [if_neg h0] at hy
      cases hy
      repeat' first | (refine And.intro (fun c => ?_) (fun c => ?_) <;> first | exact absurd c (by decide) | (cases c; done) | (simp only [decide_eq_true_eq, decide_eq_false_iff_not] at c) | skip) | fail
      all_goals first
        | exact ⟨[], ⟨trivial, rfl⟩, congrArg (fun x => [AV.p (B x)]) (by grind), rfl⟩
        | skip
      rename_i cl
      have hlen : (t.ks.length : Int) = arity t.nm := by grind
      have hgoal : (decide (arity t.nm ≠ 0) && decide ((t.ks.length : Int) = arity t.nm) && (if t.nm = (⟨#[76, 97, 109]⟩ : ByteArray) ∨ t.nm = (⟨#[76, 101, 116]⟩ : ByteArray) then termB t.ks else termL t.ks)) = restF t 0 := by
        unfold restF
        by_cases hb : t.nm = (⟨#[76, 97, 109]⟩ : ByteArray) ∨ t.nm = (⟨#[76, 101, 116]⟩ : ByteArray)
        · rw [if_pos hb, if_pos ⟨rfl, hb⟩]; simp [h0, hlen]
        · rw [if_neg hb, if_neg (fun h => hb h.2)]; simp [h0, hlen]
      rw [hgoal]
      refine ⟨Int, fun i => ([(1, .ptr 0 0), (41, .p (.lst (encM t.ks))), (42, .p (I t.ks.length)), (43, .p (I i))], [.box 31 [.p (S t.nm), .p (S t.tx), .p (B t.lf), .p (.lst (encM t.ks))]]),
        fun i n => 0 ≤ i ∧ i ≤ t.ks.length ∧ n = (t.ks.length - i).toNat ∧ restF t i = restF t 0,
        ⟨0, _, ⟨by omega, by omega, rfl, rfl⟩, [], ⟨rfl, rfl, congrArg (fun x : Nat => AV.p (I x)) he.symm, rfl, trivial⟩, ⟨⟨rfl, rfl, rfl, rfl, rfl, trivial⟩, trivial⟩, rfl⟩, ?_⟩
      rintro i n ⟨h1, h2, rfl, hr⟩
      refine And.intro (fun ci => ?_) (fun ci => ?_) <;> simp only [decide_eq_true_eq, decide_eq_false_iff_not] at ci
      · obtain ⟨k, hk, hm, hdr⟩ := drop_cons h1 ci
        have hwk := wt_kid hm
        have hwe := wt_eq k
        have hstep : restF t i = ((if i = 0 ∧ (t.nm = (⟨#[76, 97, 109]⟩ : ByteArray) ∨ t.nm = (⟨#[76, 101, 116]⟩ : ByteArray)) then isId k else termF k) && restF t (i + 1)) := by
          have hd1 : restF t (i + 1) = termL (t.ks.drop (i + 1).toNat) := by unfold restF; rw [if_neg (by omega)]
          rw [hd1]
          unfold restF
          by_cases hb : i = 0 ∧ (t.nm = (⟨#[76, 97, 109]⟩ : ByteArray) ∨ t.nm = (⟨#[76, 101, 116]⟩ : ByteArray))
          · rw [if_pos hb, if_pos hb]
            obtain ⟨rfl, _⟩ := hb
            have : t.ks = k :: t.ks.drop 1 := hdr
            rw [this]; rfl
          · rw [if_neg hb, if_neg hb, hdr, termL]
        rw [hstep] at hr
        have hbi : binds t = (decide (t.nm = (⟨#[76, 97, 109]⟩ : ByteArray)) || decide (t.nm = (⟨#[76, 101, 116]⟩ : ByteArray))) := by unfold binds; rw [c0]; rfl
        refine And.intro h1 (Exists.intro k.enc (And.intro (encM_get hk) (And.intro rfl ?_)))
        repeat' first
          | (refine And.intro (fun c => ?_) (fun c => ?_) <;> first | exact absurd c (by decide) | (cases c; done) | (simp only [decide_eq_true_eq, decide_eq_false_iff_not] at c) | skip)
          | refine callA (iBinds t) ?_
          | refine callA (iIsId k (by omega)) ?_
          | refine callA (ih k hm) ?_
          | fail
        all_goals first
          | exact ⟨i + 1, _, ⟨by omega, by omega, rfl, by grind⟩, by omega, [], ⟨rfl, rfl, rfl, congrArg (fun x => AV.p (I x)) (w64 (by omega)).symm, trivial⟩, ⟨⟨rfl, rfl, rfl, rfl, rfl, trivial⟩, trivial⟩, rfl⟩
          | exact ⟨[], ⟨trivial, rfl⟩, congrArg (fun x => [AV.p (B x)]) (by grind), rfl⟩
          | fail
      · have hend : restF t i = true := by
          unfold restF
          rw [if_neg (by omega), drop_end (by omega)]; rfl
        exact ⟨[], ⟨trivial, rfl⟩, congrArg (fun x => [AV.p (B x)]) (by rw [← hr, hend]), rfl⟩
    · rw [get_arity] at hy
      by_cases h0 : arity t.nm = 0
      · repeat' first | (refine And.intro (fun c => ?_) (fun c => ?_) <;> first | exact absurd c (by decide) | (cases c; done) | (simp only [decide_eq_true_eq, decide_eq_false_iff_not] at c) | skip) | fail
        exact ⟨[], ⟨trivial, rfl⟩, congrArg (fun x => [AV.p (B x)]) (by rw [h0]; rfl), rfl⟩
      · rw [if_neg h0] at hy; cases hy
termination_by SizeOf.sizeOf t
decreasing_by exact kid_lt hk
theorem iTermOK (t : Tree) (hw : wt t ≤ 1099511627776) : FnP Try.prog 113 [t.enc] [B (okT t && termF t)] := by
  refine fn_intro Try.func113 rfl rfl rfl ?_
  refine callA (iTreeOK t hw) ?_
  repeat' first | (refine And.intro (fun c => ?_) (fun c => ?_) <;> first | exact absurd c (by decide) | (cases c; done) | (simp only [decide_eq_true_eq, decide_eq_false_iff_not] at c) | skip) | refine callA (iTermForm t hw) ?_ | fail
  all_goals exact ⟨[], ⟨trivial, rfl⟩, congrArg (fun x => [AV.p (B x)]) (by grind), rfl⟩
theorem leaf_ks {t : Tree} (h : right t = true) (hl : t.lf = true) : t.ks = [] := by
  rw [right_eq, hl] at h
  by_cases hk : t.ks = []
  · exact hk
  · have := List.length_pos_iff.mpr hk
    simp [this] at h
theorem right_mem {t k : Tree} (h : right t = true) (hm : k ∈ t.ks) : right k = true := by
  rw [right_eq, Bool.and_eq_true] at h
  have : ∀ l : List Tree, rightL l = true → k ∈ l → right k = true := fun l => by
    induction l with
    | nil => intro _ hm; simp at hm
    | cons a l ih =>
      intro h hm
      simp only [rightL, Bool.and_eq_true] at h
      rcases List.mem_cons.mp hm with rfl | hm
      · exact h.1
      · exact ih h.2 hm
  exact this _ h.2 hm
theorem sTermForm (t : Tree) (hw : wt t ≤ 1099511627776) (hrt : right t = true) : FnP Try.prog 185 [t.enc] [B (termF t)] := by
  have ih : ∀ k, k ∈ t.ks → FnP Try.prog 185 [k.enc] [B (termF k)] := fun k hk => sTermForm k (by have := wt_kid hk; omega) (right_mem hrt hk)
  have hl := wt_len t
  have hww := wt_eq t
  have he : (encM t.ks).length = t.ks.length := encM_len _
  rw [termF_eq]
  refine fn_intro Try.func185 rfl rfl rfl ?_
  refine And.intro (fun c0 => ?_) (fun c0 => ?_)
  · rw [if_pos c0]
    repeat' first
      | (refine And.intro (fun c => ?_) (fun c => ?_) <;> first | exact absurd c (by decide) | (cases c; done) | (simp only [decide_eq_true_eq, decide_eq_false_iff_not] at c) | skip)
      | refine callA (sName _) ?_
      | refine callA (sNum _ (by omega)) ?_
      | fail
    all_goals exact ⟨[], ⟨trivial, rfl⟩, congrArg (fun x => [AV.p (B x)]) (by rw [leafF]; grind), rfl⟩
  · rw [if_neg (by rw [c0]; simp)]
    cases hks : t.ks with
    | nil =>
      have he0 : (encM t.ks).length = 0 := by rw [hks]; rfl
      repeat' first
        | (refine And.intro (fun c => ?_) (fun c => ?_) <;> first | exact absurd c (by decide) | (cases c; done) | (simp only [decide_eq_true_eq, decide_eq_false_iff_not] at c) | skip)
        | (exfalso; grind)
        | fail
      all_goals exact ⟨[], ⟨trivial, rfl⟩, congrArg (fun x => [AV.p (B x)]) (by rw [arity]; simp; grind), rfl⟩
    | cons k0 r0 =>
      have hk0 : (encM t.ks)[(0 : Int).toNat]? = some k0.enc := encM_get (l := t.ks) (i := 0) (by rw [hks]; rfl)
      have hm0 : k0 ∈ t.ks := by rw [hks]; exact List.mem_cons_self ..
      have hlf0 : k0.lf = true → k0.ks.length = 0 := fun h => by rw [leaf_ks (right_mem hrt hm0) h]; rfl
      have hidk : isId k0 = (k0.lf && decide (k0.nm = (⟨#[73, 100]⟩ : ByteArray)) && nameOK k0.tx) := by
        unfold isId leafOK
        cases h : k0.lf with
        | false => rfl
        | true => simp [hlf0 h]
      rw [← hks]
      have hB : termB t.ks = (isId k0 && termL (t.ks.drop 1)) := by rw [hks]; rfl
      rw [hB, hidk]
      repeat' first
        | (refine And.intro (fun c => ?_) (fun c => ?_) <;> first | exact absurd c (by decide) | (cases c; done) | (simp only [decide_eq_true_eq, decide_eq_false_iff_not] at c) | skip)
        | refine And.intro (show 0 ≤ (0 : Int) by omega) (Exists.intro k0.enc (And.intro hk0 (And.intro rfl ?_)))
        | refine callA (sName _) ?_
        | fail
      all_goals first
        | exact ⟨[], ⟨trivial, rfl⟩, congrArg (fun x => [AV.p (B x)]) (by rw [arity]; grind), rfl⟩
        | skip
      all_goals generalize hG : (decide (arity t.nm ≠ 0) && decide ((t.ks.length : Int) = arity t.nm) && (if t.nm = (⟨#[76, 97, 109]⟩ : ByteArray) ∨ t.nm = (⟨#[76, 101, 116]⟩ : ByteArray) then (k0.lf && decide (k0.nm = (⟨#[73, 100]⟩ : ByteArray)) && nameOK k0.tx && termL (t.ks.drop 1)) else termL t.ks)) = G
      all_goals
        have ha : (t.ks.length : Int) = arity t.nm := by rw [arity]; grind
        have ha0 : arity t.nm ≠ 0 := by rw [← ha, hks, List.length_cons]; omega
        have hG1 : (if t.nm = (⟨#[76, 97, 109]⟩ : ByteArray) ∨ t.nm = (⟨#[76, 101, 116]⟩ : ByteArray) then (k0.lf && decide (k0.nm = (⟨#[73, 100]⟩ : ByteArray)) && nameOK k0.tx && termL (t.ks.drop 1)) else termL t.ks) = G := by
          rw [← hG, decide_eq_true ha0, decide_eq_true ha, Bool.true_and, Bool.true_and]
        clear hG
        refine ⟨Int, fun i => ([(1, .ptr 0 0), (4, .p (I t.ks.length)), (5, .p (I i))], [.box 31 [.p (S t.nm), .p (S t.tx), .p (B t.lf), .p (.lst (encM t.ks))]]),
          fun i n => 0 ≤ i ∧ i ≤ t.ks.length ∧ n = (t.ks.length - i).toNat ∧ termL (t.ks.drop i.toNat) = G, ?_, ?_⟩
        · first
            | exact ⟨1, _, ⟨by omega, by grind, rfl, by show termL (t.ks.drop 1) = G; rw [← hG1, if_pos (by first | exact .inl (by assumption) | exact .inr (by assumption))]; grind⟩, [], ⟨rfl, congrArg (fun x => AV.p (I x)) (by grind), rfl, trivial⟩, ⟨⟨rfl, rfl, rfl, rfl, rfl, trivial⟩, trivial⟩, rfl⟩
            | exact ⟨0, _, ⟨by omega, by grind, rfl, by show termL t.ks = G; rw [← hG1, if_neg (by grind)]⟩, [], ⟨rfl, congrArg (fun x => AV.p (I x)) (by grind), rfl, trivial⟩, ⟨⟨rfl, rfl, rfl, rfl, rfl, trivial⟩, trivial⟩, rfl⟩
        · rintro i n ⟨h1, h2, rfl, hr⟩
          refine And.intro (fun ci => ?_) (fun ci => ?_) <;> simp only [decide_eq_true_eq, decide_eq_false_iff_not] at ci
          · obtain ⟨k, hk, hm, hdr⟩ := drop_cons h1 ci
            rw [hdr, termL] at hr
            refine And.intro h1 (Exists.intro k.enc (And.intro (encM_get hk) (And.intro rfl ?_)))
            refine callA (ih k hm) ?_
            repeat' first | (refine And.intro (fun c => ?_) (fun c => ?_) <;> first | exact absurd c (by decide) | (cases c; done) | (simp only [decide_eq_true_eq, decide_eq_false_iff_not] at c) | skip) | fail
            all_goals first
              | exact ⟨i + 1, _, ⟨by omega, by omega, rfl, by grind⟩, by omega, [], ⟨rfl, rfl, congrArg (fun x => AV.p (I x)) (w64 (by omega)).symm, trivial⟩, ⟨⟨rfl, rfl, rfl, rfl, rfl, trivial⟩, trivial⟩, rfl⟩
              | exact ⟨[], ⟨trivial, rfl⟩, congrArg (fun x => [AV.p (B x)]) (by grind), rfl⟩
              | fail
          · rw [drop_end (l := t.ks) (i := i) (by omega), termL] at hr
            exact ⟨[], ⟨trivial, rfl⟩, congrArg (fun x => [AV.p (B x)]) hr, rfl⟩
termination_by SizeOf.sizeOf t
decreasing_by exact kid_lt hk
theorem okT_right {t : Tree} (h : okT t = true) : right t = true := by
  rw [okT, Bool.and_eq_true] at h; exact h.2
theorem sTermOK (t : Tree) (hw : wt t ≤ 1099511627776) : FnP Try.prog 111 [t.enc] [B (okT t && termF t)] := by
  refine fn_intro Try.func111 rfl rfl rfl ?_
  refine callA (sTreeOK t hw) ?_
  repeat' first | (refine And.intro (fun c => ?_) (fun c => ?_) <;> first | exact absurd c (by decide) | (cases c; done) | (simp only [decide_eq_true_eq, decide_eq_false_iff_not] at c) | skip) | refine callA (sTermForm t hw (okT_right (by assumption))) ?_ | fail
  all_goals exact ⟨[], ⟨trivial, rfl⟩, congrArg (fun x => [AV.p (B x)]) (by grind), rfl⟩
end Go.Proofs.Ytegpjjnedbbpjaa.Z
