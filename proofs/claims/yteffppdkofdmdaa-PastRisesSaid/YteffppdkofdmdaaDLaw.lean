/- From the abstract machine to a law. -/
import Derived.Test.YteffppdkofdmdaaDEng9
import Derived.WalkKit
import Derived.ProofKit
import Derived.OpenShut
import Derived.ShutString
namespace Go.Proofs.Yteffppdkofdmdaa.D
noncomputable section
open Go.RowKit
variable {P : Program}

def FTof (P : Program) : Fns := fun f => match P.funcs[f]? with
  | some fn => prepF P fn
  | none => none

theorem FTof_ok : FnsOk P (FTof P) := by
  intro f fd h
  unfold FTof at h
  split at h
  · rename_i fn hfn
    exact ⟨fn, hfn, h⟩
  · cases h

theorem fnsOk_lf : FnsOk P (Tr.lf : Tr FD).get := fun f fd h => by rw [Tr.get_lf] at h; cases h

theorem FnsOk.set {t : Tr FD} (h : FnsOk P t.get) {k : Nat} {fn : Func} {fd : FD} (hf : P.funcs[k]? = some fn) (hp : prepF P fn = some fd) : FnsOk P (t.set k fd).get := by
  intro f fd' hx
  rw [Tr.get_set] at hx
  by_cases e : f = k
  · rw [if_pos e] at hx; cases hx
    exact ⟨fn, by rw [e]; exact hf, hp⟩
  · rw [if_neg e] at hx; exact h f fd' hx

/-- An empty memory. -/
def St.empty : St := { heap := .lf, base := fun _ => none, next := 0 }

theorem St.get_empty (b : Nat) : St.empty.get b = none := by
  rfl

theorem HR.empty (R : Nat) (w : World) : HR P R (fun _ => none) St.empty w :=
  ⟨fun b o h => (by rw [St.get_empty] at h; cases h), fun b c o o' p q h => (by rw [St.get_empty] at h; cases h), fun b p h => (by cases h), fun b o h => (by rw [St.get_empty] at h; cases h)⟩

theorem Mv.below {s s' : St} {w w' : World} {ν : Place} (h : Mv (fun _ => none) s w ν s' w') : Below w.heap.size w w' :=
  ⟨h.os, h.tape, h.output, h.size, fun k hk => h.frame k hk fun _ _ _ e => by cases e⟩

def isTrue : Option (AV × St) → Bool
  | some (.bool true, _) => true
  | _ => false

theorem isTrue_some {x : Option (AV × St)} (h : isTrue x = true) : ∃ s, x = some (.bool true, s) := by
  unfold isTrue at h
  split at h
  · exact ⟨_, rfl⟩
  · cases h

/-- A call that asks nothing of memory answers true, and what lay lies as it lay. -/
theorem callsIn_closed {SM : Sums} (hm : P.follows .mixedOrders = true) (hSM : SumsOk P SM) (hSN : SumsNext SM) {FT : Fns} (hFT : FnsOk P FT) {fuel f : Nat} (h : isTrue ((eng FT SM fuel).call f [] St.empty) = true) (w : World) :
    Calls P f #[] w fun e w' => e = .returned (.bool true) ∧ Below w.heap.size w w' := by
  obtain ⟨s', hs⟩ := isTrue_some h
  have := ((eng_sound hm hFT hSM hSN fuel).call hs (Nat.le_refl _) (HR.empty s'.next w) (show concs _ [] = some [] from rfl)).2 0
  refine callsIn_wide.1 (this.mono ?_)
  intro e w' hr
  cases e with
  | returned c =>
    obtain ⟨ν, h1, _, h3⟩ := hr
    simp only [conc, Option.some.injEq] at h1
    subst h1
    exact ⟨rfl, h3.below⟩
  | panicked _ => exact hr.elim
  | outgrown => exact hr.elim

section post
variable {H : Type} {enc : TypeId × Value → H}
theorem post_below {f : Func} {s : ChangeSpec} {apart fresh handsOn again : Bool} {W W' : World} {args : Array Value} {v : Value} {ds gs : List (DataW H)} {before pa pv : List MemPlace}
    (hW : DataW.Whole enc P f.params.toList s.vars apart W args.toList ds gs before)
    (hres : ∀ (b : Nat) (sp : Nat → Bool) (hd : Bool), DataW.TrodAll enc P W' b sp hd f.resultTypes.toList (v.resultList f.resultTypes.size) (s.fn H (ds ++ gs)).results [])
    (hargs : ∀ sp : Nat → Bool, (∀ p ∈ before, sp p.block = true) → DataW.TrodAll enc P W' 0 sp true f.params.toList args.toList (s.fn H (ds ++ gs)).args pa)
    (hvars : ∀ sp : Nat → Bool, (∀ p ∈ before, sp p.block = true) → DataW.TrodVars enc P W' sp s.vars (s.fn H (ds ++ gs)).vars pv)
    (hps : before = pa ++ pv) (hb : Below W.heap.size W W')
    (hok : ∀ (j : Nat) (t : TypeId) (r : Value), f.resultTypes[j]? = some t → (v.resultList f.resultTypes.size)[j]? = some r → Value.okWide P W' .any 0 t r) :
    s.post enc P f apart fresh handsOn again W args v W' := by
  have hlt : ∀ p ∈ before, p.block < W.heap.size := fun p hp => hW.lt p hp
  have hold : ∀ p ∈ before, (fun b => decide (b < W.heap.size)) p.block = true := fun p hp => by simpa using hlt p hp
  refine ⟨ds, gs, before, [], pa, pv, hW, hres _ _ _, hargs _ hold, hvars _ hold, hb.frame _, fun _ => ?_⟩
  obtain ⟨_, _, _, _, _, hz, hn⟩ := hW
  refine ⟨hok, _, _, ([] ++ pa) ++ pv, ⟨[] ++ pa, pv, ChangeShapes.trodAll_append (hargs _ (fun _ _ => rfl)) (hres _ _ _), hvars _ (fun _ _ => rfl), rfl, ?_, ?_⟩, ?_⟩
  · intro b off hp
    have hp' : MemPlace.cell b off ∈ before := by rw [hps]; simpa using hp
    rw [hb.frozen (p := ⟨b, off, none⟩) (hlt _ hp')]
    exact hz b off hp'
  · intro ha
    have := hn ha
    rw [hps] at this
    simpa using this
  · intro p hp _
    rw [hps]
    simpa using hp
end post
end
end Go.Proofs.Yteffppdkofdmdaa.D
