/- strconv.Itoa, by the kit's shelf. -/
import Derived.Test.YtnnalcglfgapbaaDoorSyW
import Derived.Test.YtnnalcglfgapbaaDoorShstrconvItoa
import Derived.KernelRfl
set_option linter.unusedVariables false
set_option linter.unusedSimpArgs false
namespace Go.Proofs.YtnnalcglfgapbaaDoor.Z
open Go Go.RowKit Go.Proofs.Sy Go.Proofs
set_option maxRecDepth 100000
theorem tab_pow {F : Nat → Prop} {w : World} (h : TabOK F w) : Lib.TabIs Tryd.prog w "internal/strconv.uint64pow10" .u64 Lib.pow10Tab := by
  obtain ⟨_, T, z, e⟩ := h _ (List.mem_cons_self ..)
  unfold Lib.TabIs World.var?
  rw [show Tryd.prog.globalNamed "internal/strconv.uint64pow10" = some 1 by kernel_rfl]
  show (match w.heap[1]? with | some (.cells cs _ _) => some cs | _ => none) = _
  rw [e]; rfl
def itoaB (x : Int) : ByteArray := ⟨(Lib.itoa x).toArray⟩
def m_strconv_Itoa (n : Nat) (x : Int) : Option ByteArray := gp (-9223372036854775808 ≤ x ∧ x ≤ 9223372036854775807) <| some (itoaB x)
theorem c_strconv_Itoa (n : Nat) (x : Int) (r : ByteArray) (h : m_strconv_Itoa n x = some r) : FnP Tryd.prog 39 [I x] [S r] := by
  obtain ⟨g, h⟩ := gpT h
  cases h
  refine ⟨by kernel_rfl, fun F ι w vs hargs hsr hlt => ?_⟩
  obtain ⟨hl, hv⟩ := hargs
  match vs, hl, hv with
  | [v], _, hv =>
    have hv0 : VR F ι w (.p (I x)) v := hv 0 _ v rfl rfl
    cases VR.inv_raw hv0
    refine (Tryd.strconv_Itoa x g.1 g.2 w (tab_pow hsr.tab)).mono ?_
    rintro e w' ⟨he, k, os, rfl⟩
    have hb : Below w.heap.size w (Go.Sort.grow (w.drewN k) os) := ⟨rfl, rfl, rfl, by show w.heap.size ≤ (w.heap ++ os).size; simp, fun j hj => by
      show (w.heap ++ os)[j]? = _
      rw [Array.getElem?_append_left hj]⟩
    have hd : ∀ b, (at_ ([] : Sto) b).w = true → False := fun b hb => by rw [at_nil] at hb; cases hb
    refine ⟨F, ι, [.p (S (itoaB x))], [], [.string (itoaB x)], he, ⟨rfl, rfl⟩, ⟨rfl, fun j y u hy hu => ?_⟩, ⟨fun b => by rw [at_nil]; trivial, fun b _ _ _ _ _ h1 => (hd b h1).elim, fun b _ _ h1 => (hd b h1).elim, hsr.top, hsr.tab.mono (fun _ h => h) (fun r hr => hb.block r (hlt r hr))⟩,
      ⟨rfl, rfl, rfl, hb.size, fun _ h => h, fun r hr _ => hb.block r hr, fun r hr _ => .inl hr, fun b _ _ h1 => (hd b h1).elim, fun _ _ => rfl, fun r hr => Nat.lt_of_lt_of_le (hlt r hr) hb.size, fun _ h => h, fun r N h => (rowLen_same (hb.block r (rowLen_lt h))).trans h⟩, Nat.le_refl _⟩
    match j, hy, hu with
    | 0, hy, hu => cases hy; cases hu; exact .p _ _ (.raw _ rfl)
    | j + 1, hy, hu => simp at hy
end Go.Proofs.YtnnalcglfgapbaaDoor.Z
