/- Maps, closures, interface values. -/
import Derived.Test.YtnnalcglfgapbaaDoorSyG
import Derived.MapKept
set_option linter.unusedVariables false
set_option linter.unusedSimpArgs false
namespace Go.Proofs.Sy
open Go Go.RowKit Go.MapKept

def keyEq : Value → Value → Bool
  | .int k a, .int k' b => decide (k = k') && decide (a = b)
  | .string a, .string b => decide (a = b)
  | .bool a, .bool b => a == b
  | _, _ => false
def mget : List (Value × PV) → Value → Option PV
  | [], _ => none
  | (k', x) :: r, k => bif keyEq k' k then some x else mget r k
def mput : List (Value × PV) → Value → PV → List (Value × PV)
  | [], k, y => [(k, y)]
  | (k', x) :: r, k, y => bif keyEq k' k then (k', y) :: r else (k', x) :: mput r k y
def zero1 (P : Program) (e : TypeId) : Option PV := match P.info? e with
  | some i => match i.zero with
    | some (.int k n) => some (.raw (.int k n))
    | some (.string s) => some (.raw (.string s))
    | some (.bool b) => some (.raw (.bool b))
    | some (.slice none 0 0) => some (.lst [])
    | some (.map none) => some (.raw (.map none))
    | _ => none
  | none => none
def mapOf (σ : Sto) (wr_ : List Nat) : AV → Option (List (Value × PV))
  | .mp b => bif memN b wr_ then none else match at_ σ b with
    | .map _ l => some l
    | _ => none
  | .p (.raw (.map none)) => some []
  | _ => none
def keyOf : AV → Option Value
  | .p (.raw v) => some v
  | _ => none
def okPV (ok : Bool) (y : PV) (b : Bool) : AV := match ok with
  | true => .tup [.p y, .p (B b)]
  | false => .p y
def lookK (P : Program) (T : TypeId) (σ : Sto) (wr_ : List Nat) (ok : Bool) (K : AV → Prop) (x k : AV) : Prop := match P.underlying T with
  | some (.map kt et) => match mapOf σ wr_ x, keyOf k, P.underlying kt, zero1 P et with
    | some l, some kv, some d, some z => ((∀ kx ∈ l, IsKey d kx.1) ∧ IsKey d kv) ∧
        (∀ y, mget l kv = some y → K (okPV ok y true)) ∧ (mget l kv = none → K (okPV ok z false))
    | _, _, _, _ => False
  | _ => False
def updK (P : Program) (T : TypeId) (σ : Sto) (K : Sto → Prop) (m k x : AV) : Prop := match P.underlying T, m with
  | some (.map kt et), .mp b => match keyOf k, P.underlying kt with
    | some kv, some d => toPA (fun y σ' => match at_ σ' b with
      | .map T0 l => ((∀ kx ∈ l, IsKey d kx.1) ∧ IsKey d kv) ∧ K (set_ σ' b (.map T0 (mput l kv y)))
      | _ => False) σ x
    | _, _ => False
  | _, _ => False
def mlenK (K : AV → Prop) (σ : Sto) (wr_ : List Nat) (x : AV) : Prop := match mapOf σ wr_ x with
  | some l => K (.p (I l.length))
  | none => False
def fnK (K : AV → Prop) (fn : Go.Fn) (first caps : List AV) : Prop := match fn, first with
  | .func f, [] => K (.fn f caps)
  | _, _ => False
def ifaceK (P : Program) (T : TypeId) (K : AV → Prop) (x : AV) : Prop := match x, P.underlying T with
  | .p (.raw v), some (.int k) => K (.p (.raw (.iface T v)))
  | .p (.raw v), some .string => K (.p (.raw (.iface T v)))
  | .p (.agg [.raw v]), some (.struct fs) => K (.p (.raw (.iface T (.agg #[v]))))
  | _, _ => False

theorem keys_nil {d : TypeDesc} : ∀ kx ∈ ([] : List (Value × PV)), IsKey d kx.1 := fun kx h => by simp at h
theorem keys_put {d : TypeDesc} {k : Value} {y : PV} : ∀ {l : List (Value × PV)}, (∀ kx ∈ l, IsKey d kx.1) → IsKey d k → ∀ kx ∈ mput l k y, IsKey d kx.1
  | [], _, hk, kx, h => by simp [mput] at h; subst h; exact hk
  | (k', x) :: l, hl, hk, kx, h => by
    simp only [mput] at h
    cases hq : keyEq k' k with
    | true =>
      rw [hq] at h
      simp only [cond_true, List.mem_cons] at h
      rcases h with rfl | h
      · exact hl (k', x) (List.mem_cons_self ..)
      · exact hl kx (List.mem_cons_of_mem _ h)
    | false =>
      rw [hq] at h
      simp only [cond_false, List.mem_cons] at h
      rcases h with rfl | h
      · exact hl (k', x) (List.mem_cons_self ..)
      · exact keys_put (fun kx h => hl kx (List.mem_cons_of_mem _ h)) hk kx h
theorem keyEq_str (a b : ByteArray) : keyEq (.string a) (.string b) = decide (a = b) := rfl
theorem mget_nil (k : Value) : mget [] k = none := rfl
/-- Maps from texts. -/
theorem mget_str {y : PV} {a b : ByteArray} : ∀ {l : List (Value × PV)}, (∀ kx ∈ l, IsKey .string kx.1) → mget (mput l (.string a) y) (.string b) = if a = b then some y else mget l (.string b)
  | [], _ => by
    by_cases h : a = b
    · simp [mput, mget, keyEq, h]
    · simp [mput, mget, keyEq, h]
  | (k', x) :: l, hl => by
    have ih := mget_str (y := y) (a := a) (b := b) (l := l) (fun kx h => hl kx (List.mem_cons_of_mem _ h))
    have hk := hl (k', x) (List.mem_cons_self ..)
    cases k' with
    | string c =>
      by_cases h1 : c = a
      · subst h1
        by_cases h2 : c = b
        · subst h2; simp [mput, mget, keyEq]
        · simp [mput, mget, keyEq, h2]
      · by_cases h2 : c = b
        · subst h2
          have : ¬ a = c := fun e => h1 e.symm
          simp [mput, mget, keyEq, h1, this]
        · simp only [mput, mget, keyEq, h1, h2, decide_false, cond_false]
          exact ih
    | _ => simp [IsKey] at hk

section
variable {P : Program} {cx : Cx} {F : Nat → Prop} {ι : Loc} {fr : Fr} {σ : Sto} {a : Act} {w w' : World}

theorem keyEq_iff {d : TypeDesc} {a b : Value} (ha : IsKey d a) (hb : IsKey d b) : keyEq a b = true ↔ a = b := by
  cases d <;> cases a <;> cases b <;> simp_all [IsKey, keyEq]
theorem find_get {d : TypeDesc} {k : Value} (hk : IsKey d k) : ∀ (l : List MapEntry) (m : List (Value × PV)) (i : Nat), l.length = m.length → (∀ kx ∈ m, IsKey d kx.1) → (∀ (j : Nat) e kx, l[j]? = some e → m[j]? = some kx → e.key = kx.1) →
    (mget m k = none ∧ Instr.findNow d k l i = some none ∧ (∀ y, mput m k y = m ++ [(k, y)])) ∨
    ∃ j e x, mget m k = some x ∧ Instr.findNow d k l i = some (some (i + j, e.val)) ∧ l[j]? = some e ∧ m[j]? = some (k, x) ∧ e.key = k ∧ ∀ y, mput m k y = m.set j (k, y)
  | [], [], i, _, _, _ => .inl ⟨rfl, rfl, fun y => rfl⟩
  | e :: l, (k', x) :: m, i, hl, hm, hh => by
    have hke : e.key = k' := hh 0 e (k', x) rfl rfl
    have hk' : IsKey d k' := hm (k', x) (List.mem_cons_self ..)
    obtain ⟨r, hr, hiff⟩ := sameNow_of_keys hk (show IsKey d e.key from hke ▸ hk')
    cases r with
    | true =>
      have hkk : k = k' := (hiff.1 rfl).trans hke
      subst hkk
      have hq : keyEq k k = true := (keyEq_iff hk hk).2 rfl
      exact .inr ⟨0, e, x, by simp [mget, hq], by simp [Instr.findNow, hr], rfl, rfl, hke, fun y => by simp [mput, hq]⟩
    | false =>
      have hne : ¬ k' = k := fun q => by have := hiff.2 (q.symm.trans hke.symm); cases this
      have hq : keyEq k' k = false := by
        cases h : keyEq k' k with
        | false => rfl
        | true => exact absurd ((keyEq_iff hk' hk).1 h) hne
      rcases find_get hk l m (i + 1) (by simpa using hl) (fun kx h => hm kx (List.mem_cons_of_mem _ h)) (fun j e kx h1 h2 => hh (j + 1) e kx (by simpa using h1) (by simpa using h2)) with ⟨h1, h2, h3⟩ | ⟨j, e', x', h1, h2, h3, h4, h5, h6⟩
      · exact .inl ⟨by simp [mget, hq, h1], by simp [Instr.findNow, hr, h2], fun y => by simp [mput, hq, h3]⟩
      · exact .inr ⟨j + 1, e', x', by simp [mget, hq, h1], by simp [Instr.findNow, hr, h2]; omega, by simpa using h3, by simpa using h4, h5, fun y => by simp [mput, hq, h6]⟩
  | [], _ :: _, _, hl, _, _ => by simp at hl
  | _ :: _, [], _, hl, _, _ => by simp at hl

theorem zero1_ok {e : TypeId} {z : PV} (h : zero1 P e = some z) : ∃ zv, (∀ w', (zeroValue e).run P w' = .ok zv w') ∧ ∀ F w, PR F w z zv := by
  unfold zero1 at h
  split at h
  · rename_i i hi
    have hz : ∀ zv, i.zero = some zv → ∀ w', (zeroValue e).run P w' = .ok zv w' := fun zv hz w' => by
      simp [zeroValue, typeInfo, hi, hz, Sem.run]
    split at h
    all_goals first
      | (rename_i hq; cases h; exact ⟨_, hz _ hq, fun F w => .raw _ rfl⟩)
      | (rename_i hq; cases h; exact ⟨_, hz _ hq, fun F w => .nil _ _⟩)
      | cases h
  · cases h

theorem mapOf_ok (h : SR F ι w σ) {wr_ : List Nat} {x : AV} {u : Value} {l : List (Value × PV)} (hx : VR F ι w x u) (hm : mapOf σ wr_ x = some l) :
    (u = .map none ∧ l = []) ∨ ∃ r, u = .map (some r) ∧ ∀ w', Same F ι σ wr_ w w' → ∃ es c, w'.heap[r]? = some (.map es c) ∧ es.size = l.length ∧ ∀ (j : Nat) e kx, es[j]? = some e → l[j]? = some kx → e.key = kx.1 ∧ PR F w kx.2 e.val := by
  unfold mapOf at hm
  split at hm
  · rename_i b
    cases hmem : memN b wr_ with
    | true => rw [hmem] at hm; cases hm
    | false =>
      rw [hmem] at hm
      simp only [cond_false] at hm
      split at hm
      · rename_i T l' hb
        cases hm
        cases hx with
        | mp _ r hι =>
          have hbk := h.bk b
          rw [hb, hι] at hbk
          obtain ⟨r', es, c, e, h1, h2, h3⟩ := hbk
          cases e
          refine .inr ⟨r, rfl, fun w' hw' => ⟨es, c, (hw'.2 b r 0 (by rw [hb]; rfl) hmem hι).trans h1, h2, h3⟩⟩
      · cases hm
  · cases hm
    cases hx with
    | p _ _ hp => cases hp with
      | raw _ _ => exact .inl ⟨rfl, rfl⟩
  · cases hm

theorem lookK_ok {T : TypeId} {wr_ : List Nat} {ok : Bool} {K : AV → Prop} {x k : AV} {u v : Value} (h : SR F ι w σ) (hx : VR F ι w x u) (hkv : VR F ι w k v) (hk : lookK P T σ wr_ ok K x k) :
    ∃ y t, K y ∧ VR F ι w y t ∧ ∀ w', Same F ι σ wr_ w w' → (Instr.lookup T u v ok).run P w' = .ok t w' := by
  unfold lookK at hk
  split at hk
  · rename_i kt et hT
    split at hk
    · rename_i l kv d z hl hkk hd hz
      obtain ⟨⟨hks, hkey⟩, hs, hn⟩ := hk
      obtain ⟨zv, hzr, hzp⟩ := zero1_ok hz
      have hv : v = kv := by
        unfold keyOf at hkk
        split at hkk
        · cases hkk
          cases hkv with
          | p _ _ hp => cases hp with
            | raw _ _ => rfl
        · cases hkk
      subst hv
      have hfin : ∀ {y : PV} {yv : Value} (b : Bool), PR F w y yv → VR F ι w (okPV ok y b) (if ok = true then .tuple #[yv, .bool b] else yv) := fun {y yv} b hy => by
        cases ok with
        | false => exact .p _ _ hy
        | true =>
          refine .tup _ [yv, .bool b] rfl fun j q t hq ht => ?_
          match j, hq, ht with
          | 0, hq, ht => cases hq; cases ht; exact .p _ _ hy
          | 1, hq, ht => cases hq; cases ht; exact .p _ _ (.raw _ rfl)
          | (j + 2), hq, ht => simp at hq
      rcases mapOf_ok h hx hl with ⟨rfl, rfl⟩ | ⟨r, rfl, hsame⟩
      · refine ⟨_, _, hn rfl, hfin false (hzp F w), fun w' _ => ?_⟩
        have hf : (Instr.findKey kt v []).run P w' = .ok none w' := run_findKey hd (by cases d <;> rfl)
        simp [Instr.lookup, run_underlying hT, run_checkKey hd hkey, hf, hzr, Result.andThen]
      · obtain ⟨es0, c0, hb0, hsz0, hes0⟩ := hsame w Same.refl
        have hkeys : ∀ (j : Nat) e kx, es0.toList[j]? = some e → l[j]? = some kx → e.key = kx.1 := fun j e kx h1 h2 => (hes0 j e kx (by simpa using h1) h2).1
        rcases find_get hkey es0.toList l 0 (by simpa using hsz0) hks hkeys with ⟨h1, h2, _⟩ | ⟨j, e, y, h1, h2, h3, h4, h5, _⟩
        · refine ⟨_, _, hn h1, hfin false (hzp F w), fun w' hw' => ?_⟩
          have hb : w'.heap[r]? = some (.map es0 c0) := by
            obtain ⟨es, c, hb, _⟩ := hsame w' hw'
            have : w'.heap[r]? = w.heap[r]? := by
              cases hx with
              | mp b _ hι =>
                unfold mapOf at hl
                cases hmem : memN b wr_ with
                | true => simp [hmem] at hl
                | false =>
                  have hbw : (at_ σ b).w = true := by
                    simp only [hmem, cond_false] at hl
                    split at hl
                    · rename_i hb; rw [hb]; rfl
                    · cases hl
                  exact hw'.2 b r 0 hbw hmem hι
              | p _ _ hp => cases hp with
                | raw _ _ => simp [mapOf] at hl
              | dead => simp [mapOf] at hl
            rw [this]; exact hb0
          simp [Instr.lookup, run_underlying hT, MapKept.run_getObj_map hb, run_checkKey hd hkey, run_findKey hd h2, hzr, Result.andThen]
        · have hpr := (hes0 j e (v, y) (by simpa using h3) h4).2
          refine ⟨_, _, hs y h1, hfin true hpr, fun w' hw' => ?_⟩
          have hb : w'.heap[r]? = some (.map es0 c0) := by
            obtain ⟨es, c, hb, _⟩ := hsame w' hw'
            have : w'.heap[r]? = w.heap[r]? := by
              cases hx with
              | mp b _ hι =>
                unfold mapOf at hl
                cases hmem : memN b wr_ with
                | true => simp [hmem] at hl
                | false =>
                  have hbw : (at_ σ b).w = true := by
                    simp only [hmem, cond_false] at hl
                    split at hl
                    · rename_i hb; rw [hb]; rfl
                    · cases hl
                  exact hw'.2 b r 0 hbw hmem hι
              | p _ _ hp => cases hp with
                | raw _ _ => simp [mapOf] at hl
              | dead => simp [mapOf] at hl
            rw [this]; exact hb0
          simp [Instr.lookup, run_underlying hT, MapKept.run_getObj_map hb, run_checkKey hd hkey, run_findKey hd h2, Result.andThen]
    · exact hk.elim
  · exact hk.elim
theorem below_allocMap (o : Obj) : Below w.heap.size w (w.alloc o) := ⟨rfl, rfl, rfl, by rw [show (w.alloc o).heap = w.heap.push o from rfl, Array.size_push]; omega, fun k hk => by
  have e : (w.alloc o).heap = w.heap.push o := rfl
  rw [e, Array.getElem?_push, if_neg (Nat.ne_of_lt hk)]⟩
theorem newMap_ok (h : St cx F ι fr σ a w) (T : TypeId) : (Instr.makeMap T none).run P w = .ok (.map (some w.heap.size)) (w.alloc (.map #[] 0)) ∧ St cx F (put_ ι σ.length (some (w.heap.size, 0))) fr (σ ++ [.map T []]) a (w.alloc (.map #[] 0)) ∧
    VR F (put_ ι σ.length (some (w.heap.size, 0))) (w.alloc (.map #[] 0)) (.mp σ.length) (.map (some w.heap.size)) ∧ ∀ wr, Step wr F ι σ w F (put_ ι σ.length (some (w.heap.size, 0))) (σ ++ [.map T []]) (w.alloc (.map #[] 0)) := by
  have hb := below_allocMap (w := w) (.map #[] 0)
  have hget : (w.alloc (.map #[] 0)).heap[w.heap.size]? = some (.map #[] 0) := (heap_alloc w _).1
  refine ⟨rfl, h.new hb rfl (by rw [show (w.alloc (.map #[] 0)).heap = w.heap.push (.map #[] 0) from rfl, Array.size_push]; omega) ⟨_, _, _, rfl, hget, rfl, fun j e kx he => by simp at he⟩, .mp _ _ (put_self _ _ _), fun wr => h.stepNew hb⟩
theorem updK_ok {T : TypeId} {K : Sto → Prop} {m k x : AV} {u kv v : Value} (h : St cx F ι fr σ a w) (hm : VR F ι w m u) (hkv : VR F ι w k kv) (hx : VR F ι w x v) (hk : updK P T σ K m k x) :
    ∃ F' σ' w', K σ' ∧ (Instr.mapUpdate T u kv v).run P w = .ok () w' ∧ (∀ r, F r → F' r) ∧ St cx F' ι fr σ' a w' ∧ ∀ wr, inT wr m = true → Step wr F ι σ w F' ι σ' w' := by
  unfold updK at hk
  split at hk
  · rename_i kt et b hT
    split at hk
    · rename_i key d hkk hd
      obtain ⟨F1, σ1, y, hk1, hF1, h1, hy, _, t1⟩ := toPA_ok h hx hk
      split at hk1
      · rename_i T0 l hb
        obtain ⟨⟨hks, hkey⟩, hk2⟩ := hk1
        have hv : kv = key := by
          unfold keyOf at hkk
          split at hkk
          · cases hkk
            cases hkv with
            | p _ _ hp => cases hp with
              | raw _ _ => rfl
          · cases hkk
        subst hv
        cases hm with
        | mp _ r hι =>
          have hbk := h1.sr.bk b
          rw [hb, hι] at hbk
          obtain ⟨r', es, c, e, hb0, hsz, hes⟩ := hbk
          cases e
          have hw1 : (at_ σ1 b).w = true := by rw [hb]; rfl
          have fin : ∀ (es' : Array MapEntry) (c' : Nat), (Instr.mapUpdate T (.map (some r)) kv v).run P w = .ok () { w with heap := w.heap.setIfInBounds r (.map es' c') } → es'.size = (mput l kv y).length →
              (∀ (j : Nat) e kx, es'[j]? = some e → (mput l kv y)[j]? = some kx → e.key = kx.1 ∧ PR F1 w kx.2 e.val) →
              ∃ F' σ' w', K σ' ∧ (Instr.mapUpdate T (.map (some r)) kv v).run P w = .ok () w' ∧ (∀ r, F r → F' r) ∧ St cx F' ι fr σ' a w' ∧ ∀ wr, inT wr (.mp b) = true → Step wr F ι σ w F' ι σ' w' := by
            intro es' c' hrun hsz' hes'
            have hset := heap_set (o' := .map es' c') hb0
            have hrl : ∀ (h : Array Obj) r, h[r]? = some (.map es' c') → ∀ w', w'.heap = h → rowLen w' r = none := fun h r hr w' e => by unfold rowLen; rw [e, hr]
            have hbut : But r w { w with heap := w.heap.setIfInBounds r (.map es' c') } := ⟨rfl, rfl, rfl, by simp, fun q _ hne => hset.2 q hne, by
              unfold rowLen
              rw [hset.1, hb0]⟩
            have hnF : ¬ F1 r := h1.sr.own b r 0 hw1 hι
            refine ⟨F1, _, _, hk2, hrun, hF1, h1.set hw1 hι hbut rfl (fun _ => rfl) ⟨r, es', c', rfl, hset.1, hsz', fun j e kx h2 h3 => ⟨(hes' j e kx h2 h3).1, ?_⟩⟩, fun wr hin => (t1 wr).trans (h1.stepSet hw1 hι hbut (by simpa [inT] using hin))⟩
            exact (hes' j e kx h2 h3).2.mono (fun _ h => h) (fun q hq => hset.2 q (fun e => hnF (e ▸ hq)))
          have hkeys : ∀ (j : Nat) e kx, es.toList[j]? = some e → l[j]? = some kx → e.key = kx.1 := fun j e kx h1 h2 => (hes j e kx (by simpa using h1) h2).1
          rcases find_get hkey es.toList l 0 (by simpa using hsz) hks hkeys with ⟨g1, g2, g3⟩ | ⟨j, e, y0, g1, g2, g3, g4, g5, g6⟩
          · refine fin (es.push { key := kv, val := v, born := c }) (c + 1) ?_ (by rw [g3]; simp [hsz]) ?_
            · simp [Instr.mapUpdate, run_underlying hT, MapKept.run_getObj_map hb0, run_checkKey hd hkey, run_findKey hd g2, MapKept.run_setObj_map _ hb0, Result.andThen]
            · rw [g3]
              intro j e kx h2 h3
              rw [Array.getElem?_push] at h2
              split at h2
              · rename_i hj
                cases h2
                rw [hj, hsz] at h3
                simp at h3
                subst h3
                exact ⟨rfl, hy⟩
              · rename_i hj
                have hjl : j < l.length := by rw [← hsz]; exact (Array.getElem?_eq_some_iff.mp h2).1
                rw [List.getElem?_append_left hjl] at h3
                exact hes j e kx h2 h3
          · have hj : es[j]? = some e := by simpa using g3
            have hjs : j < es.size := (Array.getElem?_eq_some_iff.mp hj).1
            refine fin (es.modify j fun e => { e with key := kv, val := v }) c ?_ (by rw [g6]; simp [hsz]) ?_
            · simp [Instr.mapUpdate, run_underlying hT, MapKept.run_getObj_map hb0, run_checkKey hd hkey, run_findKey hd g2, hj, g5, run_keyThatStays hkey, MapKept.run_setObj_map _ hb0, Result.andThen]
            · rw [g6]
              intro i e' kx h2 h3
              rw [Array.getElem?_modify] at h2
              by_cases hij : j = i
              · subst hij
                rw [if_pos rfl, hj] at h2
                simp at h2
                subst h2
                rw [List.getElem?_set_self (by rw [← hsz]; exact hjs)] at h3
                cases h3
                exact ⟨rfl, hy⟩
              · rw [if_neg hij] at h2
                rw [List.getElem?_set_ne hij] at h3
                exact hes i e' kx h2 h3
      · exact hk1.elim
    · exact hk.elim
  · exact hk.elim
end
end Go.Proofs.Sy
