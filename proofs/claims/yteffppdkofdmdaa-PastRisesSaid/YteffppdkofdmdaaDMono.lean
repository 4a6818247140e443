/- The abstract machine gives out ever new numbers. Plain laws. -/
import Derived.Test.YteffppdkofdmdaaDExec
namespace Go.Proofs.Yteffppdkofdmdaa.D
variable {p : POp} {ev ev' : Ev} {s s' : St} {v : AV}

theorem storeA_next {b o : Nat} {l : List AV} (h : storeA s b o l = some s') : s'.next = s.next := by
  unfold storeA at h
  split at h
  · split at h <;> cases h
    rfl
  · cases h

theorem appendA_next {esz eb n : Nat} {x : AV} {l : List AV} (h : appendA esz eb s x n l = some (v, s')) : s.next ≤ s'.next := by
  unfold appendA newA at h
  repeat' split at h
  all_goals first
    | (cases h; done)
    | (cases h; simp)
    | (cases h; rename_i hs; have := storeA_next hs; omega)

theorem xop_next (h : xop p ev s = some (v, s')) : s.next ≤ s'.next := by
  unfold xop at h
  simp only [] at h
  repeat' split at h
  all_goals first
    | (cases h; done)
    | exact appendA_next h
    | (simp only [newA] at h; cases h; simp; done)
    | (cases h; simp; done)
    | (cases h; rename_i hs; have := storeA_next hs; omega)

theorem evs_congr {l : List X} (h : ∀ x ∈ l, ev x = ev' x) : evs ev l = evs ev' l := by
  induction l with
  | nil => rfl
  | cons x r ih =>
    simp only [evs]
    rw [h x (by simp), ih fun y hy => h y (by simp [hy])]

theorem fillA_congr {l : List (Nat × Nat × X)} (h : ∀ x ∈ l.map (·.2.2), ev x = ev' x) : ∀ z, fillA ev z l = fillA ev' z l := by
  induction l with
  | nil => intro z; rfl
  | cons x r ih =>
    intro z
    obtain ⟨a, b, c⟩ := x
    simp only [fillA]
    rw [h c (by simp)]
    split
    · split
      · exact ih (fun y hy => h y (by simp at hy ⊢; exact .inr hy)) _
      · rfl
    · rfl

theorem evO_congr {x : Option X} (h : ∀ y ∈ x.toList, ev y = ev' y) : evO ev x = evO ev' x := by
  cases x with
  | none => rfl
  | some y => simp only [evO]; rw [h y (by simp)]

theorem xop_congr (h : ∀ x ∈ p.xs, ev x = ev' x) : xop p ev s = xop p ev' s := by
  cases p
  case len k x =>
    have h1 := h x (by simp [POp.xs])
    unfold xop
    simp only []
    split <;> (try simp_all)
  case sliceSl e x lo hi mx =>
    simp only [xop]
    rw [h x (by simp [POp.xs]), evO_congr (x := lo) fun y hy => h y (by simp [POp.xs]; simp at hy; simp [hy]), evO_congr (x := hi) fun y hy => h y (by simp [POp.xs]; simp at hy; simp [hy]),
      evO_congr (x := mx) fun y hy => h y (by simp [POp.xs]; simp at hy; simp [hy])]
  case sliceArr n e x lo hi mx =>
    simp only [xop]
    rw [h x (by simp [POp.xs]), evO_congr (x := lo) fun y hy => h y (by simp [POp.xs]; simp at hy; simp [hy]), evO_congr (x := hi) fun y hy => h y (by simp [POp.xs]; simp at hy; simp [hy]),
      evO_congr (x := mx) fun y hy => h y (by simp [POp.xs]; simp at hy; simp [hy])]
  case sliceStr x lo hi =>
    simp only [xop]
    rw [h x (by simp [POp.xs]), evO_congr (x := lo) fun y hy => h y (by simp [POp.xs]; simp at hy; simp [hy]), evO_congr (x := hi) fun y hy => h y (by simp [POp.xs]; simp at hy; simp [hy])]
  case build z l => simp only [xop]; rw [fillA_congr h]
  case buildSlice z n l k => simp only [xop]; rw [fillA_congr h]
  case mkFunc f a c => simp only [xop]; rw [evs_congr (l := a) fun x hx => h x (by simp [POp.xs, hx]), evs_congr (l := c) fun x hx => h x (by simp [POp.xs, hx])]
  case minmax m l => simp only [xop]; rw [evs_congr (l := l) h]
  case call f l => rfl
  all_goals
    simp only [xop]
    (try rw [h _ (List.Mem.head _)])
    (try rw [h _ (List.Mem.tail _ (List.Mem.head _))])
    (try rw [h _ (List.Mem.tail _ (List.Mem.tail _ (List.Mem.head _)))])

/-- What neither looks at memory nor turns it. -/
theorem xop_calm (hc : p.cls = 0) (h : xop p ev s = some (v, s')) : s' = s ∧ ∀ u, xop p ev u = some (v, u) := by
  cases p <;> simp only [POp.cls] at hc <;> (try cases hc) <;> simp only [xop] at h ⊢
  all_goals (repeat' split at h)
  all_goals first
    | (cases h; done)
    | (cases h; exact ⟨rfl, fun u => rfl⟩)
    | (cases h; refine ⟨rfl, fun u => ?_⟩; simp_all)

/-- What looks at memory does not turn it. -/
theorem xop_look (hc : p.cls = 1) (h : xop p ev s = some (v, s')) : s' = s := by
  cases p <;> simp only [POp.cls] at hc <;> (try cases hc) <;> unfold xop at h <;> simp only [] at h
  all_goals (repeat' split at h)
  all_goals first
    | (cases h; done)
    | (cases h; rfl)
    | (exfalso; simp_all; done)

theorem opVal_congr {e : Eng} (h : ∀ x ∈ p.xs, ev x = ev' x) : opVal e p ev s = opVal e p ev' s := by
  unfold opVal
  split
  · rename_i f args
    rw [h f (by simp [POp.xs]), evs_congr (l := args) fun x hx => h x (by simp [POp.xs, hx])]
  · exact xop_congr h

/-! ### The whole machine -/

structure EngNext (e : Eng) : Prop where
  call : ∀ {f args s v s'}, e.call f args s = some (v, s') → s.next ≤ s'.next
  ex : ∀ {ro c ts ds s x ts' ds' s'}, e.ex ro c ts ds s = some (x, ts', ds', s') → s.next ≤ s'.next

variable {e : Eng}

theorem roundA_next (he : EngNext e) {r : Nat} {args : List AV} (h : roundA e r args s = some (v, s')) : s.next ≤ s'.next := by
  unfold roundA at h
  split at h
  case h_2 => cases h
  split at h
  case isFalse => cases h
  split at h
  case h_2 => cases h
  rename_i h1
  have n1 := he.ex h1
  split at h
  case h_2 => cases h
  split at h
  case h_2 => cases h
  rename_i h2
  have n2 := he.ex h2
  split at h
  case h_2 => cases h
  simp at n2
  split at h <;> (cases h; simp; omega)

theorem callV_next (he : EngNext e) {f : AV} {args : List AV} (h : callV e f args s = some (v, s')) : s.next ≤ s'.next := by
  unfold callV at h
  split at h
  · exact he.call h
  · exact roundA_next he h
  · cases h

theorem opVal_next (he : EngNext e) (h : opVal e p ev s = some (v, s')) : s.next ≤ s'.next := by
  unfold opVal at h
  split at h
  · repeat' split at h
    all_goals first
      | (cases h; done)
      | exact callV_next he h
  · exact xop_next h

theorem opStep_next (he : EngNext e) {p : PO} {ts ts' : Tr AV} (h : opStep e p ts s = some (ts', s')) : s.next ≤ s'.next := by
  unfold opStep at h
  repeat' split at h
  all_goals first
    | (cases h; done)
    | (cases h; exact Nat.le_refl _)
    | (cases h; exact opVal_next he (by assumption))

theorem runOps_next (he : EngNext e) : ∀ {l : List PO} {ts ts' : Tr AV} {s s' : St}, runOps e l ts s = some (ts', s') → s.next ≤ s'.next
  | [], _, _, _, _, h => by cases h; exact Nat.le_refl _
  | p :: r, ts, ts', s, s', h => by
    simp only [runOps] at h
    split at h
    · cases h
    · exact Nat.le_trans (opStep_next he (by assumption)) (runOps_next he h)

theorem runSnaps_next (he : EngNext e) : ∀ {l : List PO} {ts ts' : Tr AV} {s s' : St} {acc out : List St}, runSnaps e l ts s acc = some (ts', s', out) → s.next ≤ s'.next
  | [], _, _, _, _, _, _, h => by cases h; exact Nat.le_refl _
  | p :: r, ts, ts', s, s', _, _, h => by
    simp only [runSnaps] at h
    split at h
    · cases h
    · exact Nat.le_trans (opStep_next he (by assumption)) (runSnaps_next he h)

theorem takeAll_next : ∀ {l : List Nat} {s s' : St}, takeAll l s = some s' → s'.next = s.next
  | [], _, _, h => by cases h; rfl
  | d :: r, s, s', h => by
    simp only [takeAll] at h
    split at h
    · have := takeAll_next h
      simpa using this
    · cases h

theorem rangeA_next (he : EngNext e) {ro : Option Nat} {f : AV} {params : List Nat} {assign body : PC} {ts ts' : Tr AV} {ds ds' : List Nat} {x : AExit} (h : rangeA e ro f params assign body ts ds s = some (x, ts', ds', s')) : s.next ≤ s'.next := by
  unfold rangeA at h
  split at h
  case h_2 => cases h
  split at h
  case h_1 => cases h
  rename_i l ds1 s2 h0
  have h1 : s.next ≤ s2.next := by
    repeat' split at h0
    all_goals first
      | (cases h0; done)
      | (cases h0; simp; done)
      | (cases h0; simp; omega)
  split at h
  case h_1 => cases h
  rename_i s3 hc
  have h2 := he.call hc
  split at h
  all_goals first
    | (cases h; done)
    | (cases h; simp; omega)

theorem exStep_next (he : EngNext e) {ro : Option Nat} {c : PC} {ts ts' : Tr AV} {ds ds' : List Nat} {x : AExit} (h : exStep e ro c ts ds s = some (x, ts', ds', s')) : s.next ≤ s'.next := by
  cases c with
  | skip => cases h; exact Nat.le_refl _
  | region ops =>
    simp only [exStep] at h
    split at h
    · cases h; exact runOps_next he (by assumption)
    · cases h
  | drawn ops looks =>
    simp only [exStep] at h
    split at h
    · split at h
      · cases h; exact runSnaps_next he (by assumption)
      · cases h
    · cases h
  | seq a b =>
    simp only [exStep] at h
    split at h
    · exact Nat.le_trans (he.ex (by assumption)) (he.ex h)
    · exact he.ex h
  | cond y a b =>
    simp only [exStep] at h
    split at h
    · exact he.ex h
    · exact he.ex h
    · cases h
  | block id a =>
    simp only [exStep] at h
    split at h
    · cases h; exact he.ex (by assumption)
    · exact he.ex h
  | loop a =>
    simp only [exStep] at h
    split at h
    · exact Nat.le_trans (he.ex (by assumption)) (he.ex h)
    · exact he.ex h
  | rangeF f params a b =>
    simp only [exStep] at h
    split at h
    · exact rangeA_next he h
    · cases h
  | exit id => cases h; exact Nat.le_refl _
  | ret => cases h; exact Nat.le_refl _

/-- What is known of functions by their contracts gives out new numbers alone. -/
def SumsNext (SM : Sums) : Prop := ∀ f g args s v s', SM f = some g → g args s = some (v, s') → s.next ≤ s'.next

theorem callStep_next {FT : Fns} {SM : Sums} (hS : SumsNext SM) (he : EngNext e) {f : Nat} {args : List AV} (h : callStep FT SM e f args s = some (v, s')) : s.next ≤ s'.next := by
  unfold callStep at h
  split at h
  · exact hS _ _ _ _ _ _ (by assumption) h
  · split at h
    · cases h
    · split at h
      · unfold finish at h
        repeat' split at h
        all_goals first
          | (cases h; done)
          | (cases h
             have h1 := he.ex (by assumption)
             have h2 := takeAll_next (by assumption)
             omega)
      · cases h

theorem eng_next {FT : Fns} {SM : Sums} (hS : SumsNext SM) : ∀ n, EngNext (eng FT SM n)
  | 0 => ⟨fun h => (by cases h), fun h => (by cases h)⟩
  | n + 1 => ⟨fun h => callStep_next hS (eng_next hS n) h, fun h => exStep_next (eng_next hS n) h⟩
end Go.Proofs.Yteffppdkofdmdaa.D
