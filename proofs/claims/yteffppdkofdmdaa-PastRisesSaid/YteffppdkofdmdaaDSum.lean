/- A call that asks nothing of memory, once run, is known. Plain laws; no program. -/
import Derived.Test.YteffppdkofdmdaaDLaw
namespace Go.Proofs.Yteffppdkofdmdaa.D
noncomputable section
open Go.RowKit
variable {P : Program}

/-- What is known of a check that holds. -/
def aliveSum : List AV → St → Option (AV × St)
  | [], s => some (.bool true, s)
  | _ :: _, _ => none

def addSum (SM : Sums) (f : Nat) (g : List AV → St → Option (AV × St)) : Sums := fun k => if k = f then some g else SM k

theorem addSum_ne {SM : Sums} {f k : Nat} {g : List AV → St → Option (AV × St)} (h : k ≠ f) : addSum SM f g k = SM k := if_neg h
theorem addSum_eq {SM : Sums} {f : Nat} {g : List AV → St → Option (AV × St)} : addSum SM f g f = some g := if_pos rfl

theorem HR.below {R : Nat} {μ : Place} {s : St} {w w' : World} (h : HR P R μ s w) (hb : Below w.heap.size w w') : HR P R μ s w' where
  obj b o hg := by
    obtain ⟨p, hp, ho⟩ := h.obj b o hg
    exact ⟨p, hp, OR.mono (Place.le_refl _) (hb.block p.1 (h.lt b p hp).1) ho⟩
  inj := h.inj
  lt b p hp := ⟨Nat.lt_of_lt_of_le (h.lt b p hp).1 hb.size, (h.lt b p hp).2⟩
  dom := h.dom

theorem Mv.of_below {R : Nat} {μ : Place} {s : St} {w w' : World} (h : HR P R μ s w) (hR : s.next ≤ R) (hb : Below w.heap.size w w') : Mv μ s w μ s w' where
  le := Place.le_refl μ
  os := hb.os
  output := hb.output
  tape := hb.tape
  size := hb.size
  next := Nat.le_refl _
  res b p hp := (h.lt b p hp).2.imp id (Nat.le_trans hR)
  fresh _ _ hp := .inl hp
  frame k hk _ := hb.block k hk
  ro _ _ _ _ p hg hp := ⟨hg, hb.block _ (h.lt _ p hp).1⟩

theorem sumsOk_add {SM SM0 : Sums} (hm : P.follows .mixedOrders = true) {FT : Fns} (hFT : FnsOk P FT) (h0 : SumsOk P SM0) (n0 : SumsNext SM0) {fuel f : Nat} (h : isTrue ((eng FT SM0 fuel).call f [] St.empty) = true) (hSM : SumsOk P SM) :
    SumsOk P (addSum SM f aliveSum) := by
  intro k g hk args s v s' R μ w cargs hx hR hr hc
  unfold addSum at hk
  split at hk
  · rename_i e
    subst e
    cases hk
    cases args with
    | cons => cases hx
    | nil =>
      cases hx
      cases cargs with
      | cons _ _ => simp [concs] at hc
      | nil =>
      obtain ⟨s1, hs⟩ := isTrue_some h
      have key := (eng_sound hm hFT h0 n0 fuel).call hs (Nat.le_refl _) (HR.empty s1.next w) (show concs _ [] = some [] from rfl)
      refine ⟨key.1, fun n => (key.2 n).mono ?_⟩
      intro e w' he
      cases e with
      | returned c =>
        obtain ⟨ν, h1, _, h3⟩ := he
        simp only [conc, Option.some.injEq] at h1
        subst h1
        have hb := h3.below
        exact ⟨μ, rfl, hr.below hb, Mv.of_below hr hR hb⟩
      | panicked _ => exact he.elim
      | outgrown => exact he.elim
  · exact hSM k g hk hx hR hr hc

theorem sumsNext_add {SM : Sums} (hSN : SumsNext SM) (f : Nat) : SumsNext (addSum SM f aliveSum) := by
  intro k g args s v s' hk hx
  unfold addSum at hk
  split at hk
  · cases hk
    cases args with
    | cons => cases hx
    | nil => cases hx; exact Nat.le_refl _
  · exact hSN k g args s v s' hk hx
end
end Go.Proofs.Yteffppdkofdmdaa.D
