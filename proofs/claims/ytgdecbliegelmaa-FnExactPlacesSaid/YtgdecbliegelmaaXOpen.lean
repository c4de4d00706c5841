/- What the arguments of a law read as, told as kinds (Kd): for every type that is built of whole numbers, bools, strings, structs and slices. -/
import Derived.Test.YtgdecbliegelmaaWWords
import Derived.ChangeSlices
import Derived.SizedLaws
import Derived.ChangeOld
namespace Go.Proofs.YtgdecbliegelmaaX
open Go.RowKit Go.Proofs.YtgdecbliegelmaaW.PrintWords
set_option linter.unusedVariables false
set_option linter.unusedSimpArgs false

/-- What is read at type t, with this fuel, is of the kind d, and keeps the bound B. -/
def OpensN (P : Program) (n : Nat) (t : TypeId) {α : Type} (d : Kd α) (B : α → Prop) : Prop :=
  ∀ {H : Type} (enc : TypeId × Value → H) (w : World) (cs : List Value) (x : DataW H × List MemPlace),
    DataW.trod enc P w 0 (fun _ => true) true n t cs = some x → (∀ m ∈ x.1.weights P t, m ≤ reachBytes) → ∃ a, d.K w a cs ∧ B a

/-- The same of a struct's fields, the first of them at cell off. -/
def OpensF (P : Program) (n : Nat) (fs : List Field) (off : Nat) {α : Type} (d : Kd α) (B : α → Prop) : Prop :=
  ∀ {H : Type} (enc : TypeId × Value → H) (w : World) (cs : List Value) (xs : List (DataW H × List MemPlace)),
    (∀ (i : Nat) (f : Field), fs[i]? = some f → DataW.trod enc P w 0 (fun _ => true) true n f.type ((cs.drop f.offset).take (P.cellsOf f.type)) = xs[i]?) →
    xs.length = fs.length → cs.length = off + d.sz →
    (∀ (i : Nat) (f : Field) (y : DataW H × List MemPlace), fs[i]? = some f → xs[i]? = some y → ∀ m ∈ y.1.weights P f.type, m ≤ reachBytes) → ∃ a, d.K w a (cs.drop off) ∧ B a

theorem isEmpty_bne (l : List UInt8) : l.isEmpty = !(l != []) := by cases l <;> rfl

section
variable {P : Program} {n : Nat} {t : TypeId}

theorem opens_zero {α : Type} (d : Kd α) (B : α → Prop) : OpensN P 0 t d B := by
  intro H enc w cs x h
  simp [DataW.trod] at h

theorem opens_int {k : IntKind} (ht : P.underlying t = some (.int k)) : OpensN P n t (Kd.int k) (fun a => (Lit.int k a).wf = true) := by
  intro H enc w cs x h _
  obtain ⟨a, h1, _, h3⟩ := DataW.trod_int ht h
  exact ⟨a, h1, h3⟩

theorem opens_bool (ht : P.underlying t = some .bool) : OpensN P n t Kd.bool (fun _ => True) := by
  intro H enc w cs x h _
  obtain ⟨a, h1, _⟩ := DataW.trod_bool ht h
  exact ⟨a, h1, trivial⟩

theorem opens_string (ht : P.underlying t = some .string) : OpensN P n t Kd.string (fun a => a.size ≤ 140737488351232) := by
  intro H enc w cs x h hw
  obtain ⟨a, h1, h2, _⟩ := DataW.trod_string ht h
  subst h2
  have hm := hw a.data.toList.length (by simp [DataW.weights])
  rw [Array.length_toList] at hm
  exact ⟨a, h1, hm⟩

theorem add_add (a : Addr) (x y : Nat) : (a.add x).add y = a.add (x + y) := by
  unfold Addr.add
  by_cases hx : x = 0
  · subst hx; simp
  · by_cases hy : y = 0
    · subst hy; simp
    · simp [hx, hy, Nat.add_assoc]

theorem exists_list {α : Type} {p : Nat → α → Prop} : ∀ (n : Nat), (∀ i, i < n → ∃ a, p i a) → ∃ l : List α, l.length = n ∧ ∀ i a, l[i]? = some a → p i a
  | 0, _ => ⟨[], rfl, fun i a h => by simp at h⟩
  | n + 1, h => by
    obtain ⟨l, hl, hp⟩ := exists_list n (fun i hi => h i (by omega))
    obtain ⟨a, ha⟩ := h n (by omega)
    refine ⟨l ++ [a], by simp [hl], fun i b hb => ?_⟩
    rcases Nat.lt_or_ge i n with hi | hi
    · rw [List.getElem?_append_left (by omega)] at hb
      exact hp i b hb
    · rw [List.getElem?_append_right (by omega)] at hb
      have h0 : i - l.length = 0 := by
        rcases Nat.eq_zero_or_pos (i - l.length) with h0 | h0
        · exact h0
        · rw [List.getElem?_eq_none (by simp; omega)] at hb
          cases hb
      rw [h0] at hb
      have : i = n := by omega
      subst this
      simp at hb
      subst hb
      exact ha

theorem opens_i64 (ht : P.underlying t = some (.int .i64)) : OpensN P n t (Kd.int .i64) (fun a => -9223372036854775808 ≤ a ∧ a ≤ 9223372036854775807) := by
  intro H enc w cs x h hw
  obtain ⟨a, h1, h2⟩ := opens_int ht enc w cs x h hw
  refine ⟨a, h1, ?_⟩
  simp only [Lit.wf, Bool.and_eq_true, decide_eq_true_eq] at h2
  exact ⟨h2.1, h2.2⟩

theorem opens_u8 (ht : P.underlying t = some (.int .u8)) : OpensN P n t (Kd.int .u8) (fun a => 0 ≤ a ∧ a ≤ 255) := by
  intro H enc w cs x h hw
  obtain ⟨a, h1, h2⟩ := opens_int ht enc w cs x h hw
  refine ⟨a, h1, ?_⟩
  simp only [Lit.wf, Bool.and_eq_true, decide_eq_true_eq] at h2
  exact ⟨h2.1, h2.2⟩

theorem opens_slice {α : Type} {d : Kd α} {B : α → Prop} {e bs : Nat} (ht : P.underlying t = some (.slice e)) (hs : P.cellsOf e = d.sz) (hb : P.bytesOf e = bs)
    (h : OpensN P n e d B) : OpensN P (n + 1) t (Kd.slice e d) (fun l => l.length * bs ≤ 140737488351232 ∧ ∀ a ∈ l, B a) := by
  intro H enc w cs x hx hw
  rcases DataW.trod_slice ht hx with ⟨rfl, rfl⟩ | ⟨a, len, cap, elems, rest, m, hm, rfl, rfl, _, hl, hc, hlen, hel, _, _⟩
  · exact ⟨[], ⟨none, 0, rfl, Nat.le_refl _, rfl, by simp, fun h0 => absurd h0 (by simp)⟩, by simp, fun a ha => by simp at ha⟩
  · obtain rfl : n = m := by omega
    have hw' : ∀ m, m ∈ (elems.map (·.1) : List (DataW H)).flatMap (fun y => y.weights P e) ∨ m = ((elems.map (·.1)).length + (rest.map (·.1)).length) * P.bytesOf e → m ≤ reachBytes := by
      intro m hm
      refine hw m ?_
      simp only [DataW.weights, ht]
      rcases hm with hm | hm
      · refine List.mem_cons_of_mem _ (List.mem_append_left _ ?_)
        clear hel hw hlen hx
        generalize (elems.map (·.1) : List (DataW H)) = ys at hm
        induction ys with
        | nil => simp at hm
        | cons y ys ih =>
          simp only [DataW.weightsAll, List.mem_append]
          rw [List.flatMap_cons, List.mem_append] at hm
          rcases hm with hm | hm
          · exact .inl hm
          · exact .inr (ih hm)
      · exact List.mem_cons.2 (.inl hm)
    have key : ∀ i, i < len → ∃ b : α, ∃ c, (c.length = d.sz ∧ d.K w b c ∧ ∀ j u, c[j]? = some u → w.cell? (a.add (i * d.sz + j)) = some u) ∧ B b := by
      intro i hi
      have h1 := hel i hi
      rw [List.getElem?_eq_getElem (by omega)] at h1
      obtain ⟨c, h2, h3⟩ := Option.bind_eq_some_iff.1 h1
      obtain ⟨_, h4, h5⟩ := World.cells?_some h2
      obtain ⟨b, hk, hB⟩ := h enc w c _ h3 (fun m hm => hw' m (.inl (by
        rw [List.mem_flatMap]
        exact ⟨_, List.mem_map.2 ⟨_, List.getElem_mem _, rfl⟩, hm⟩)))
      refine ⟨b, c, ⟨by rw [h4, hs], hk, fun j u hu => ?_⟩, hB⟩
      have hj : j < P.cellsOf e := by
        rw [← h4]
        exact (List.getElem?_eq_some_iff.1 hu).1
      have h6 := h5 j hj
      rw [add_add, hs] at h6
      rw [h6, hu]
    obtain ⟨l, h1, h2⟩ := exists_list len key
    subst h1
    refine ⟨l, ⟨some a, cap, rfl, hl, rfl, by simp only [maxLen] at hc; omega, fun _ => ⟨a, rfl, fun j p hj => ?_⟩⟩, ?_, fun b hb => ?_⟩
    · obtain ⟨c, hc, _⟩ := h2 j p hj
      exact ⟨c, hc.1, hc.2.1, hc.2.2⟩
    · have h3 := hw' _ (.inr rfl)
      rw [List.length_map, List.length_map, hlen, hb] at h3
      exact Nat.le_trans (Nat.mul_le_mul_right _ (Nat.le_add_right _ _)) h3
    · obtain ⟨j, hj, hj2⟩ := List.getElem_of_mem hb
      obtain ⟨_, _, hB⟩ := h2 j b (by rw [← hj2]; exact List.getElem?_eq_getElem hj)
      exact hB

/-- The same, the elements being read with less fuel. -/
theorem opens_slice_lt {α : Type} {d : Kd α} {B : α → Prop} {e bs : Nat} (ht : P.underlying t = some (.slice e)) (hs : P.cellsOf e = d.sz) (hb : P.bytesOf e = bs)
    (h : ∀ m, m < n → OpensN P m e d B) : OpensN P n t (Kd.slice e d) (fun l => l.length * bs ≤ 140737488351232 ∧ ∀ a ∈ l, B a) := by
  cases n with
  | zero => exact opens_zero _ _
  | succ n => exact opens_slice ht hs hb (h n (Nat.lt_succ_self n))

theorem opensF_one {α : Type} {d : Kd α} {B : α → Prop} {f : Field} {off : Nat} (ho : f.offset = off) (hs : P.cellsOf f.type = d.sz) (h : OpensN P n f.type d B) : OpensF P n [f] off d B := by
  intro H enc w cs xs hx hl hc hw
  obtain ⟨x, rfl⟩ : ∃ x, xs = [x] := by
    match xs, hl with
    | [x], _ => exact ⟨x, rfl⟩
  have h0 := hx 0 f rfl
  rw [ho, hs, List.take_of_length_le (by rw [List.length_drop]; omega)] at h0
  exact h enc w _ x h0 (hw 0 f x rfl rfl)

theorem opensF_cons {α β : Type} {d : Kd α} {B : α → Prop} {d' : Kd β} {B' : β → Prop} {f : Field} {fs : List Field} {off : Nat} (ho : f.offset = off) (hs : P.cellsOf f.type = d.sz)
    (h : OpensN P n f.type d B) (h' : OpensF P n fs (off + d.sz) d' B') : OpensF P n (f :: fs) off (Kd.pair d d') (fun p => B p.1 ∧ B' p.2) := by
  intro H enc w cs xs hx hl hc hw
  obtain ⟨x, xs, rfl⟩ : ∃ x ys, xs = x :: ys := by
    match xs, hl with
    | x :: ys, _ => exact ⟨x, ys, rfl⟩
  have h0 := hx 0 f rfl
  rw [ho, hs] at h0
  obtain ⟨a, ha, hB⟩ := h enc w _ x h0 (hw 0 f x rfl rfl)
  have hc' : cs.length = off + (d.sz + d'.sz) := hc
  obtain ⟨b, hb, hB'⟩ := h' enc w cs xs (fun i g hg => hx (i + 1) g hg) (by simpa using hl) (by omega) (fun i g y hg hy => hw (i + 1) g y hg hy)
  refine ⟨(a, b), ⟨(cs.drop off).take d.sz, cs.drop (off + d.sz), ?_, ha, hb⟩, hB, hB'⟩
  rw [← List.drop_drop, List.take_append_drop]

theorem opens_struct {α : Type} {d : Kd α} {B : α → Prop} {fs : Array Field} (ht : P.underlying t = some (.struct fs)) (hs : P.cellsOf t = d.sz) (h : OpensF P n fs.toList 0 d B) : OpensN P (n + 1) t d B := by
  intro H enc w cs x hx hw
  obtain ⟨xs, m, hm, rfl, hc, hl, hi⟩ := DataW.trod_struct ht hx
  obtain rfl : n = m := by omega
  have hw' : ∀ m ∈ DataW.weightsEach P (fs.toList.map (·.type)) (xs.map (·.1)), m ≤ reachBytes := by
    intro m hm
    refine hw m ?_
    simp only [DataW.weights, ht]
    exact hm
  obtain ⟨a, ha, hB⟩ := h enc w cs xs (fun i f hf => hi i f (by simpa using hf)) (by simpa using hl) (by omega) (fun i f y hf hy m hm => hw' m (DataW.weights_mem_each (j := i) (t := f.type) (d := y.1) (by simp at hf; simp [hf]) (by simp [hy]) m hm))
  exact ⟨a, by simpa using ha, hB⟩

theorem opens_weaken {α : Type} {d : Kd α} {B B' : α → Prop} (h : OpensN P n t d B) (hB : ∀ a, B a → B' a) : OpensN P n t d B' := by
  intro H enc w cs x hx hw
  obtain ⟨a, ha, hb⟩ := h enc w cs x hx hw
  exact ⟨a, ha, hB a hb⟩

/-- A Lean structure by its fields: f takes it apart, g puts it together. -/
theorem opens_iso {α β : Type} {d : Kd α} {B : α → Prop} {f : β → α} (g : α → β) (hg : ∀ a, f (g a) = a) (h : OpensN P n t d B) : OpensN P n t (Kd.iso d f) (fun b => B (f b)) := by
  intro H enc w cs x hx hw
  obtain ⟨a, ha, hb⟩ := h enc w cs x hx hw
  refine ⟨g a, ?_, ?_⟩
  · show d.K w (f (g a)) cs
    rw [hg]
    exact ha
  · show B (f (g a))
    rw [hg]
    exact hb
/-- The same, where what the cells say is told by another kind. -/
theorem opens_map {α β : Type} {d : Kd α} {d' : Kd β} {B : α → Prop} {B' : β → Prop} (h : OpensN P n t d B) (hm : ∀ w a cs, d.K w a cs → B a → ∃ b, d'.K w b cs ∧ B' b) : OpensN P n t d' B' := by
  intro H enc w cs x hx hw
  obtain ⟨a, ha, hb⟩ := h enc w cs x hx hw
  exact hm w a cs ha hb

/-- An argument: its reading laid open. -/
theorem open_arg {α : Type} {d : Kd α} {B : α → Prop} {H : Type} {enc : TypeId × Value → H} {w : World} {v : Value} {x : DataW H} {ps : List MemPlace} {ts : List TypeId} {ds : List (DataW H)} {j : Nat}
    (hsz : (DataW.weightsEach P ts ds).all (· ≤ reachBytes) = true) (ht : ts[j]? = some t) (hd : ds[j]? = some x)
    (h : ∀ n, OpensN P n t d B) (hx : DataW.Trod enc P w 0 (fun _ => true) true t v x ps) : ∃ a, d.K w a v.cells.toList ∧ B a := by
  obtain ⟨n, hn⟩ := hx
  refine h n enc w _ _ hn (fun m hm => ?_)
  have := List.all_eq_true.1 hsz m (DataW.weights_mem_each ht hd m hm)
  simpa using this

/-- A struct's value is its cells. -/
theorem agg_of_cells {r : Reach} {b : Nat} {w : World} {v : Value} {fs : Array Field} {cs : List Value} (ht : P.underlying t = some (.struct fs)) (hv : Value.okWide P w r b t v) (hc : v.cells.toList = cs) : v = .agg cs.toArray := by
  simp only [Value.okWide, ht] at hv
  obtain ⟨cs', rfl, _⟩ := hv
  simp only [Value.cells] at hc
  subst hc
  simp

theorem slice_of_kind {α : Type} {d : Kd α} {e : Nat} {w : World} {a : Option Addr} {len cap : Nat} {l : List α} (h : (Kd.slice e d).K w l (Value.slice a len cap).cells.toList) : len = l.length ∧ l.length ≤ cap ∧ d.C w a l.length l := by
  obtain ⟨A, c, hc, hl, hr⟩ := h
  simp only [Value.cells, List.cons.injEq, Value.slice.injEq, and_true] at hc
  obtain ⟨rfl, rfl, rfl⟩ := hc
  exact ⟨rfl, hl, hr⟩
end
end Go.Proofs.YtgdecbliegelmaaX
