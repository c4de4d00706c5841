/- strings.Cut and strings.Split, by the kit's shelf. -/
import Derived.Test.YtnnalcglfgapbaaDoorSyW
import Derived.Test.YtnnalcglfgapbaaDoorShstringsCut
import Derived.Test.YtnnalcglfgapbaaDoorShstringsSplit
import Derived.Lib.SplitLaws
import Derived.KernelRfl
set_option linter.unusedVariables false
set_option linter.unusedSimpArgs false
namespace Go.Proofs.YtnnalcglfgapbaaDoor.Z
open Go Go.RowKit Go.Proofs.Sy Go.Proofs
set_option maxRecDepth 100000
theorem tab_max {F : Nat → Prop} {w : World} (h : TabOK F w) : ∃ m, w.cell? ⟨0, 0, none⟩ = some (.int .i64 m) := by
  obtain ⟨_, cs, T, z, e, m, hm⟩ := h _ (List.mem_cons_self ..)
  refine ⟨m, ?_⟩
  have e' : w.heap[0]? = some (.cells cs T z) := e
  simp only [World.cell?, e']
  exact hm
@[simp] theorem take_map_len {α β : Type} (f : α → β) (l : List α) : (l.map f).take l.length = l.map f := by rw [List.take_of_length_le (by simp)]
def m_strings_Cut (n : Nat) (s sep : ByteArray) : Option (ByteArray × ByteArray × Bool) := gp (s.size < 4294967281) <|
  some (⟨(Lib.cut s.data.toList sep.data.toList).1.toArray⟩, ⟨(Lib.cut s.data.toList sep.data.toList).2.1.toArray⟩, (Lib.cut s.data.toList sep.data.toList).2.2)
theorem c_strings_Cut (n : Nat) (s sep : ByteArray) (r : ByteArray × ByteArray × Bool) (h : m_strings_Cut n s sep = some r) : FnP Tryd.prog 29 [S s, S sep] [S r.1, S r.2.1, B r.2.2] := by
  obtain ⟨g, h⟩ := gpT h
  cases h
  refine ⟨by kernel_rfl, fun F ι w vs hargs hsr hlt => ?_⟩
  obtain ⟨hl, hv⟩ := hargs
  match vs, hl, hv with
  | [v, u], _, hv =>
    have hv0 : VR F ι w (.p (S s)) v := hv 0 _ v rfl rfl
    have hv1 : VR F ι w (.p (S sep)) u := hv 1 _ u rfl rfl
    cases VR.inv_raw hv0
    cases VR.inv_raw hv1
    obtain ⟨m, hm⟩ := tab_max hsr.tab
    refine (Tryd.strings_Cut s sep m w g hm).mono ?_
    rintro e w' ⟨he, k, rfl⟩
    have hb : Below w.heap.size w (w.drewN k) := ⟨rfl, rfl, rfl, Nat.le_refl _, fun j hj => rfl⟩
    have hd : ∀ b, (at_ ([] : Sto) b).w = true → False := fun b hb => by rw [at_nil] at hb; cases hb
    refine ⟨F, ι, _, [], [.string _, .string _, .bool _], he, ⟨rfl, rfl⟩, ⟨rfl, fun j y u hy hu => ?_⟩, ⟨fun b => by rw [at_nil]; trivial, fun b _ _ _ _ _ h1 => (hd b h1).elim, fun b _ _ h1 => (hd b h1).elim, hsr.top, hsr.tab.mono (fun _ h => h) (fun r hr => hb.block r (hlt r hr))⟩,
      ⟨rfl, rfl, rfl, hb.size, fun _ h => h, fun r hr _ => hb.block r hr, fun r hr _ => .inl hr, fun b _ _ h1 => (hd b h1).elim, fun _ _ => rfl, fun r hr => Nat.lt_of_lt_of_le (hlt r hr) hb.size, fun _ h => h, fun r N h => (rowLen_same (hb.block r (rowLen_lt h))).trans h⟩, Nat.le_refl _⟩
    match j, hy, hu with
    | 0, hy, hu => cases hy; cases hu; exact .p _ _ (.raw _ rfl)
    | 1, hy, hu => cases hy; cases hu; exact .p _ _ (.raw _ rfl)
    | 2, hy, hu => cases hy; cases hu; exact .p _ _ (.raw _ rfl)
    | j + 3, hy, hu => simp [toAVs] at hy
def m_strings_Split (n : Nat) (s sep : ByteArray) : Option (List ByteArray) := gp (s.size < 4294967281 ∧ 1 ≤ sep.size) <| some (Lib.splitB sep 0 (Lib.countB s sep) s)
theorem c_strings_Split (n : Nat) (s sep : ByteArray) (r : List ByteArray) (h : m_strings_Split n s sep = some r) : FnP Tryd.prog 43 [S s, S sep] [.lst (r.map S)] := by
  obtain ⟨⟨g, g1⟩, h⟩ := gpT h
  replace h := Option.some.inj h
  have hlen : r.length = Lib.countB s sep + 1 := by rw [← h]; exact Lib.splitB_all sep g1 0 _ s rfl
  refine ⟨by kernel_rfl, fun F ι w vs hargs hsr hlt => ?_⟩
  obtain ⟨hl, hv⟩ := hargs
  match vs, hl, hv with
  | [v, u], _, hv =>
    have hv0 : VR F ι w (.p (S s)) v := hv 0 _ v rfl rfl
    have hv1 : VR F ι w (.p (S sep)) u := hv 1 _ u rfl rfl
    cases VR.inv_raw hv0
    cases VR.inv_raw hv1
    obtain ⟨m, hm⟩ := tab_max hsr.tab
    refine (Tryd.strings_Split s sep m w g hm g1).mono ?_
    rintro e w' ⟨he, hw⟩
    rw [h] at hw
    subst hw
    have hb : Below w.heap.size w (w.alloc (.cells (r.map Value.string).toArray 9)) := ⟨rfl, rfl, rfl, by show w.heap.size ≤ (w.heap.push _).size; simp, fun j hj => by
      show (w.heap.push _)[j]? = _
      rw [Array.getElem?_push, if_neg (by omega)]⟩
    have hnew : (w.alloc (.cells (r.map Value.string).toArray 9)).heap[w.heap.size]? = some (.cells (r.map Value.string).toArray 9 (0, 0)) := by
      show (w.heap.push _)[w.heap.size]? = _
      simp
    have hd : ∀ b, (at_ ([] : Sto) b).w = true → False := fun b hb => by rw [at_nil] at hb; cases hb
    have hsz : w.heap.size < (w.alloc (.cells (r.map Value.string).toArray 9)).heap.size := by show w.heap.size < (w.heap.push _).size; simp
    refine ⟨fun k => F k ∨ k = w.heap.size, ι, [.p (.lst (r.map S))], [], [.slice (some ⟨w.heap.size, 0, none⟩) (Lib.countB s sep + 1) (Lib.countB s sep + 1)], he, ⟨rfl, rfl⟩, ⟨rfl, fun j y u hy hu => ?_⟩, ⟨fun b => by rw [at_nil]; trivial, fun b _ _ _ _ _ h1 => (hd b h1).elim, fun b _ _ h1 => (hd b h1).elim, hsr.top, hsr.tab.mono (fun _ h => .inl h) (fun r hr => hb.block r (hlt r hr))⟩,
      ⟨rfl, rfl, rfl, hb.size, fun _ h => .inl h, fun r hr _ => hb.block r hr, fun r hr hlt2 => hr.elim (fun h => .inl h) (fun h => absurd hlt2 (by rw [h]; exact Nat.lt_irrefl _)), fun b _ _ h1 => (hd b h1).elim, fun _ _ => rfl, fun r hr => hr.elim (fun h => Nat.lt_of_lt_of_le (hlt r h) hb.size) (fun h => by rw [h]; exact hsz), fun _ h => h, fun r N h => (rowLen_same (hb.block r (rowLen_lt h))).trans h⟩, Nat.le_refl _⟩
    match j, hy, hu with
    | 0, hy, hu =>
      cases hy; cases hu
      refine .p _ _ (.lst _ _ _ _ 1 _ (fun i => .string (r.getD i ⟨#[]⟩)) (.inr rfl) (by simp [hlen]) (Nat.le_refl _) (fun i x hx => ?_) (fun i x j y hx hy => ?_) (fun i x j y hx hy => ?_))
      · rw [List.getElem?_map] at hx
        obtain ⟨q, hq, rfl⟩ := Option.map_eq_some_iff.mp hx
        exact ⟨rfl, rfl⟩
      · rw [List.getElem?_map] at hx
        obtain ⟨q, hq, rfl⟩ := Option.map_eq_some_iff.mp hx
        cases j with
        | zero =>
          simp only [World.cell?, hnew]
          simp [hq]
        | succ j => simp [PV.cs] at hy
      · rw [List.getElem?_map] at hx
        obtain ⟨q, hq, rfl⟩ := Option.map_eq_some_iff.mp hx
        cases j with
        | zero =>
          simp [PV.cs] at hy
          subst hy
          simp [hq]
          exact .raw _ rfl
        | succ j => simp [PV.cs] at hy
    | j + 1, hy, hu => simp at hy
end Go.Proofs.YtnnalcglfgapbaaDoor.Z
