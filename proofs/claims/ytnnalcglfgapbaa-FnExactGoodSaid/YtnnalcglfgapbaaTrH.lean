/- Trees: the program's names, the program's measure of a tree. -/
import Derived.Test.YtnnalcglfgapbaaTrF
set_option linter.unusedVariables false
set_option linter.unusedSimpArgs false
namespace Go.Proofs.Ytnnalcglfgapbaa.Z
open Go Go.RowKit Go.Proofs.Sy Go.Proofs
set_option maxRecDepth 100000
theorem iLetter (b : Int) : FnP Try.prog 111 [U8 b] [B (isLetter b)] := by
  refine fn_intro Try.func111 rfl rfl rfl ?_
  repeat' (refine And.intro (fun c => ?_) (fun c => ?_) <;> first | exact absurd c (by decide) | skip)
  all_goals refine ⟨[], ⟨trivial, rfl⟩, congrArg (fun x => [AV.p (B x)]) ?_, rfl⟩
  all_goals simp_all [isLetter] <;> omega
theorem iDigit (b : Int) : FnP Try.prog 127 [U8 b] [B (isDigit b)] := by
  refine fn_intro Try.func127 rfl rfl rfl ?_
  repeat' (refine And.intro (fun c => ?_) (fun c => ?_) <;> first | exact absurd c (by decide) | skip)
  all_goals refine ⟨[], ⟨trivial, rfl⟩, congrArg (fun x => [AV.p (B x)]) ?_, rfl⟩
  all_goals simp_all [isDigit] <;> omega
theorem iInName (b : Int) : FnP Try.prog 112 [U8 b] [B (inName b)] := by
  refine fn_intro Try.func112 rfl rfl rfl ?_
  repeat' first
    | (refine And.intro (fun c => ?_) (fun c => ?_) <;> first | exact absurd c (by decide) | skip)
    | refine callA (iLetter _) ?_
    | refine callA (iDigit _) ?_
  all_goals refine ⟨[], ⟨trivial, rfl⟩, congrArg (fun x => [AV.p (B x)]) ?_, rfl⟩
  all_goals grind [inName]
theorem iName (s : ByteArray) (hs : s.size ≤ 1099511627776) : FnP Try.prog 67 [S s] [B (nameOK s)] := by
  refine fn_intro Try.func67 rfl rfl rfl ?_
  repeat' first
    | (refine And.intro (fun c => ?_) (fun c => ?_) <;> first | exact absurd c (by decide) | (cases c; done) | (simp only [decide_eq_true_eq, decide_eq_false_iff_not] at c) | skip)
    | refine And.intro (show 0 ≤ (0 : Int) ∧ 0 < (s.size : Int) by omega) ?_
    | refine callA (iLetter _) ?_
    | (refine ⟨([] : Sto), ⟨trivial, rfl⟩, congrArg (fun x => [AV.p (B x)]) ?_, rfl⟩; grind [nameOK])
  all_goals
    have h0 : 1 ≤ s.size := by omega
    have hl : isLetter (bt s 0) = true := by grind
    have ha := allFrom_step (p := inName) (s := s) (i := 0) (by omega) (by omega)
    have hin : inName (bt s 0) = true := by simp [inName, hl]
    rw [hin, Bool.true_and] at ha
    refine ⟨Int, fun i => ([(0, .p (S s)), (3, .p (I i))], []), fun i n => 0 ≤ i ∧ i ≤ s.size ∧ n = (s.size - i).toNat ∧ allFrom inName s i = nameOK s, ⟨0, _, ⟨by omega, by omega, rfl, by rw [ha]; grind [nameOK]⟩, [], ⟨rfl, rfl, trivial⟩, trivial, rfl⟩, ?_⟩
    rintro i n ⟨h0, h1, rfl, hr⟩
    refine And.intro (fun c => ?_) (fun c => ?_) <;> simp only [decide_eq_true_eq, decide_eq_false_iff_not] at c
    · refine And.intro ⟨h0, c⟩ (callA (iInName _) ?_)
      rw [allFrom_step h0 c] at hr
      refine And.intro (fun c2 => ?_) (fun c2 => ?_)
      · exact ⟨[], ⟨trivial, rfl⟩, congrArg (fun x => [AV.p (B x)]) (by grind), rfl⟩
      · exact ⟨i + 1, _, ⟨by omega, by omega, rfl, by grind⟩, by omega, [], ⟨rfl, congrArg (fun x => AV.p (I x)) (w64 (by omega)).symm, trivial⟩, trivial, rfl⟩
    · rw [allFrom_end (by omega)] at hr
      exact ⟨[], ⟨trivial, rfl⟩, congrArg (fun x => [AV.p (B x)]) hr, rfl⟩
mutual
def cnt : Tree → Int
  | ⟨_, _, _, ks⟩ => 1 + cntL ks
def cntL : List Tree → Int
  | [] => 0
  | k :: ks => cnt k + cntL ks
end
mutual
def hgt : Tree → Int
  | ⟨_, _, _, ks⟩ => 1 + hgtL ks
def hgtL : List Tree → Int
  | [] => 0
  | k :: ks => max (hgt k) (hgtL ks)
end
theorem cnt_eq (t : Tree) : cnt t = 1 + cntL t.ks := by cases t; rfl
theorem hgt_eq (t : Tree) : hgt t = 1 + hgtL t.ks := by cases t; rfl
mutual
theorem cnt_pos : ∀ t : Tree, 1 ≤ cnt t
  | ⟨_, _, _, ks⟩ => by have := cntL_pos ks; simp only [cnt]; omega
theorem cntL_pos : ∀ l : List Tree, 0 ≤ cntL l
  | [] => by simp only [cntL]; omega
  | k :: ks => by have := cntL_pos ks; have := cnt_pos k; simp only [cntL]; omega
end
mutual
theorem hgt_pos : ∀ t : Tree, 1 ≤ hgt t
  | ⟨_, _, _, ks⟩ => by have := hgtL_pos ks; simp only [hgt]; omega
theorem hgtL_pos : ∀ l : List Tree, 0 ≤ hgtL l
  | [] => by simp only [hgtL]; omega
  | k :: ks => by have := hgtL_pos ks; simp only [hgtL]; omega
end
mutual
theorem room_char : ∀ (t : Tree) (r d : Int), (0 ≤ room t r d ↔ hgt t ≤ d ∧ cnt t ≤ r) ∧ (0 ≤ room t r d → room t r d = r - cnt t)
  | ⟨_, _, _, ks⟩, r, d => by
    have h1 := hgtL_pos ks
    have h2 := cntL_pos ks
    simp only [room, hgt, cnt]
    split
    · omega
    · have h := roomL_char ks (r - 1) (d - 1) (by omega)
      have h3 := h.1
      have h4 := h.2
      constructor
      · rw [h3]; omega
      · intro h5; have := h4 h5; omega
theorem roomL_char : ∀ (l : List Tree) (r d : Int), 0 ≤ d → (0 ≤ roomL l r d ↔ hgtL l ≤ d ∧ cntL l ≤ r) ∧ (0 ≤ roomL l r d → roomL l r d = r - cntL l)
  | [], r, d, hd => by simp only [roomL, hgtL, cntL]; constructor <;> omega
  | k :: ks, r, d, hd => by
    have hk := room_char k r d
    have hc := cnt_pos k
    have h2 := cntL_pos ks
    have h3 := hgt_pos k
    simp only [roomL, hgtL, cntL]
    split
    · have h := roomL_char ks (room k r d) d hd
      by_cases h5 : 0 ≤ room k r d
      · have h6 := hk.2 h5
        have h7 := hk.1.mp h5
        constructor
        · rw [h.1]; omega
        · intro h8; have := h.2 h8; omega
      · rw [roomL_neg h5]
        have h8 := mt hk.1.mpr h5
        constructor
        · constructor <;> intro h9 <;> omega
        · intro h; exact absurd h h5
    · constructor
      · constructor <;> intro h9 <;> omega
      · intro h; omega
end
theorem okT_eq (t : Tree) : okT t = true ↔ right t = true ∧ cnt t ≤ 1000 ∧ hgt t ≤ 60 := by
  have := (room_char t 1000 60).1
  unfold okT
  rw [Bool.and_eq_true, decide_eq_true_eq, this]
  constructor
  · rintro ⟨⟨h1, h2⟩, h3⟩; exact ⟨h3, h2, h1⟩
  · rintro ⟨h1, h2, h3⟩; exact ⟨⟨h3, h2⟩, h1⟩
end Go.Proofs.Ytnnalcglfgapbaa.Z
