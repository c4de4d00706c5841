/- Words for walks. -/
import Derived.Test.YtnnalcglfgapbaaDoorSyK
set_option linter.unusedVariables false
namespace Go.Proofs.Sy
open Go Go.RowKit
section
variable {P : Program} {wr : Option (List Nat)} {fr : Fr} {σ : Sto} {K : AV → Fr → Sto → Prop} {Kp : Value → Fr → Sto → Prop} {f : Nat}
theorem toPAs_toAVs : ∀ (xs : List PV) (K : List PV → Sto → Prop) (σ : Sto), toPAs (toAVs xs) K σ = K xs σ
  | [], K, σ => rfl
  | x :: xs, K, σ => by
    show toPAs (toAVs xs) (fun ys => K (x :: ys)) σ = _
    rw [toPAs_toAVs xs]
/-- A call of a function of pure values. -/
theorem callA {xs ys : List PV} (h : FnP P f xs ys) (hk : K (resAV (toAVs ys)) fr σ) : (callable P f = true ∧ callK P wr fr σ K f (toAVs xs)) ∨ (SameFn P f ∧ one (fun v => K v fr σ) (toAVs xs)) ∨ (callable P f = true ∧ callE P wr fr σ K Kp f (toAVs xs)) := .inl
  ⟨h.1, .inl (by rw [toPAs_toAVs]; exact ⟨ys, h, hk⟩)⟩
/-- A call of a function of pure values, the arguments made pure. -/
theorem callP {xs ys : List PV} {args : List AV} {σ' : Sto} (h : FnP P f xs ys) (hv : ∀ K' : List PV → Sto → Prop, K' xs σ' → toPAs args K' σ) (hk : K (resAV (toAVs ys)) fr σ') : (callable P f = true ∧ callK P wr fr σ K f args) ∨ (SameFn P f ∧ one (fun v => K v fr σ) args) ∨ (callable P f = true ∧ callE P wr fr σ K Kp f args) := .inl
  ⟨h.1, .inl (hv _ ⟨ys, h, hk⟩)⟩
/-- A call, the arguments' rows looked at. -/
theorem callV {xs ys : List PV} {args : List AV} (h : FnP P f xs ys) (hr : rawL ys = true) (hv : ∀ K' : List PV → Prop, K' xs → viewsK args K' σ) (hk : K (resAV (toAVs ys)) fr σ) : (callable P f = true ∧ callK P wr fr σ K f args) ∨ (SameFn P f ∧ one (fun v => K v fr σ) args) ∨ (callable P f = true ∧ callE P wr fr σ K Kp f args) := .inl
  ⟨h.1, .inr (.inl (hv _ ⟨ys, ⟨h, hr⟩, hk⟩))⟩
/-- A call that is told the caller's blocks m. -/
theorem callG {xs : List AV} {Post : List AV → Sto → Prop} (m : List Nat) (h : Fn P f (AV.ren.renL (gIn m) xs) (selS m σ m) Post) (hm : (nodupN m && liveM σ m && subM σ wr m) = true) {args : List AV} (hp : ∀ K' : List AV → Sto → Prop, K' xs σ → ptrsK args K' σ)
    (hk : ∀ rs τ', m.length ≤ τ'.length → Post rs τ' → K (resAV (AV.ren.renL (gOut (mOut m σ τ')) rs)) (renF (gKill m σ) fr) (merge m σ τ')) : (callable P f = true ∧ callK P wr fr σ K f args) ∨ (SameFn P f ∧ one (fun v => K v fr σ) args) ∨ (callable P f = true ∧ callE P wr fr σ K Kp f args) := .inl
  ⟨h.1, .inr (.inr (.inl (hp _ ⟨m, hm, Post, h, hk⟩)))⟩
/-- The same, where arguments get pure before the call. -/
theorem callF {σ' : Sto} {xs : List AV} {Post : List AV → Sto → Prop} (m : List Nat) (h : Fn P f (AV.ren.renL (gIn m) xs) (selS m σ' m) Post) {args : List AV} (hp : ∀ K' : List AV → Sto → Prop, K' xs σ' → ptrsK args K' σ) (hm : (nodupN m && liveM σ' m && subM σ' wr m) = true)
    (hk : ∀ rs τ', m.length ≤ τ'.length → Post rs τ' → K (resAV (AV.ren.renL (gOut (mOut m σ' τ')) rs)) (renF (gKill m σ') fr) (merge m σ' τ')) : (callable P f = true ∧ callK P wr fr σ K f args) ∨ (SameFn P f ∧ one (fun v => K v fr σ) args) ∨ (callable P f = true ∧ callE P wr fr σ K Kp f args) := .inl
  ⟨h.1, .inr (.inr (.inl (hp _ ⟨m, hm, Post, h, hk⟩)))⟩
/-- The same, with a contract that asks for more: nil rows are rows, what is not needed is forgotten. -/
theorem callW {σ' : Sto} {xs args' : List AV} {τ0 : Sto} {Post : List AV → Sto → Prop} (m : List Nat) (nils : List (TypeId × Nat)) (h : Fn P f args' τ0 Post) {args : List AV} (hp : ∀ K' : List AV → Sto → Prop, K' xs σ' → ptrsK args K' σ) (hm : (nodupN m && liveM σ' m && subM σ' wr m) = true)
    (ha : okL args' (AV.ren.renL (gIn m) xs)) (hs : okS τ0 (selS m σ' m ++ nilRows nils)) (hb : (AV.low.lowL τ0.length args' && belowS τ0.length τ0 && Nat.ble (selS m σ' m).length τ0.length && keepB (selS m σ' m) τ0 (selS m σ' m).length) = true)
    (hk : ∀ rs τ', m.length ≤ τ'.length → Post rs τ' → K (resAV (AV.ren.renL (gOut (mOut m σ' τ')) rs)) (renF (gKill m σ') fr) (merge m σ' τ')) : (callable P f = true ∧ callK P wr fr σ K f args) ∨ (SameFn P f ∧ one (fun v => K v fr σ) args) ∨ (callable P f = true ∧ callE P wr fr σ K Kp f args) :=
  callF m (h.weak nils ha hs hb) hp hm hk
/-- A call that is lent rows. -/
theorem callLW {σ' : Sto} {xs args' : List AV} {τ0 : Sto} {Post : List AV → Sto → Prop} (ls m : List Nat) (nils : List (TypeId × Nat)) (h : Fn P f args' τ0 Post) {args : List AV} (hls : lendOK ls σ = true) (hp : ∀ K' : List AV → Sto → Prop, K' xs σ' → ptrsK args K' (lendS ls σ)) (hm : (nodupN m && liveM σ' m && subM σ' wr m) = true)
    (ha : okL args' (AV.ren.renL (gIn m) xs)) (hs : okS τ0 (selS m σ' m ++ nilRows nils)) (hb : (AV.low.lowL τ0.length args' && belowS τ0.length τ0 && Nat.ble (selS m σ' m).length τ0.length && keepB (selS m σ' m) τ0 (selS m σ' m).length) = true)
    (hk : ∀ rs τ', m.length ≤ τ'.length → Post rs τ' → K (resAV (AV.ren.renL (gOut (mOut m σ' τ')) rs)) (renF (gKill m σ') fr) (unlS ls (merge m σ' τ'))) : (callable P f = true ∧ callK P wr fr σ K f args) ∨ (SameFn P f ∧ one (fun v => K v fr σ) args) ∨ (callable P f = true ∧ callE P wr fr σ K Kp f args) := .inl
  ⟨h.1, .inr (.inr (.inr ⟨ls, hls, hp _ ⟨m, hm, Post, h.weak nils ha hs hb, hk⟩⟩))⟩
/-- A call that may panic. -/
theorem callPan {σ' : Sto} {xs : List AV} {Post : List AV → Sto → Prop} {Pan : Value → Sto → Prop} (m : List Nat) (h : FnE P f (AV.ren.renL (gIn m) xs) (selS m σ' m) Post Pan) {args : List AV} (hp : ∀ K' : List AV → Sto → Prop, K' xs σ' → ptrsK args K' σ) (hm : (nodupN m && liveM σ' m && subM σ' wr m) = true)
    (hk : ∀ rs τ', m.length ≤ τ'.length → Post rs τ' → K (resAV (AV.ren.renL (gOut (mOut m σ' τ')) rs)) (renF (gKill m σ') fr) (merge m σ' τ'))
    (hkp : ∀ v τ', m.length ≤ τ'.length → Pan v τ' → Kp v (renF (gKill m σ') fr) (merge m σ' τ')) : (callable P f = true ∧ callK P wr fr σ K f args) ∨ (SameFn P f ∧ one (fun v => K v fr σ) args) ∨ (callable P f = true ∧ callE P wr fr σ K Kp f args) := .inr (.inr
  ⟨h.1, hp _ ⟨m, hm, Post, Pan, h, hk, hkp⟩⟩)
/-- A call of a function that gives back what it is given. -/
theorem callS {x : AV} (h : SameFn P f) (hk : K x fr σ) : (callable P f = true ∧ callK P wr fr σ K f [x]) ∨ (SameFn P f ∧ one (fun v => K v fr σ) [x]) ∨ (callable P f = true ∧ callE P wr fr σ K Kp f [x]) := .inr (.inl ⟨h, hk⟩)
end
end Go.Proofs.Sy
