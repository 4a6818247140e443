/- The abstract machine gives out ever new numbers. Plain laws.
The abstract machine's calls and rounds are the model's.
The abstract machine's operations in a region, calls and all.
A region in its order.
What a region whose order is open rests on: sameness, the run's trace, what comes before what, and blocks that are laid early.
A region whose order is open: what holds between any two of its operations.
A region whose order is open: one operation, and the whole.
A region whose order is open: the whole.
The abstract machine's code is the model's.
A few definitions of the abstract machine, apart from what is proved of them. Plain definitions. -/
import Derived.Test.YtjejgnbdlfkenaaZb
import Derived.RangeFuncRecord
import Derived.RangeFuncNested
import Derived.OrdersIn
namespace Go.Proofs.Ytjejgnbdlfkenaa.D
variable {p : POp} {ev ev' : Ev} {s s' : St} {v : AV}

theorem storeA_next {b o : Nat} {l : List AV} (h : storeA s b o l = some s') : s'.next = s.next := by
  unfold storeA at h
  split at h
  · split at h <;> cases h
    rfl
  · cases h

theorem appendA_next {esz eb n : Nat} {x : AV} {l : List AV} (h : appendA esz eb s x n l = some (v, s')) : s.next ≤ s'.next := by
  unfold appendA newA at h
  repeat' split at h
  all_goals first
    | (cases h; done)
    | (cases h; simp)
    | (cases h; rename_i hs; have := storeA_next hs; omega)

theorem xop_next (h : xop p ev s = some (v, s')) : s.next ≤ s'.next := by
  unfold xop at h
  simp only [] at h
  repeat' split at h
  all_goals first
    | (cases h; done)
    | exact appendA_next h
    | (simp only [newA] at h; cases h; simp; done)
    | (cases h; simp; done)
    | (cases h; rename_i hs; have := storeA_next hs; omega)

theorem evs_congr {l : List X} (h : ∀ x ∈ l, ev x = ev' x) : evs ev l = evs ev' l := by
  induction l with
  | nil => rfl
  | cons x r ih =>
    simp only [evs]
    rw [h x (by simp), ih fun y hy => h y (by simp [hy])]

theorem fillA_congr {l : List (Nat × Nat × X)} (h : ∀ x ∈ l.map (·.2.2), ev x = ev' x) : ∀ z, fillA ev z l = fillA ev' z l := by
  induction l with
  | nil => intro z; rfl
  | cons x r ih =>
    intro z
    obtain ⟨a, b, c⟩ := x
    simp only [fillA]
    rw [h c (by simp)]
    split
    · split
      · exact ih (fun y hy => h y (by simp at hy ⊢; exact .inr hy)) _
      · rfl
    · rfl

theorem evO_congr {x : Option X} (h : ∀ y ∈ x.toList, ev y = ev' y) : evO ev x = evO ev' x := by
  cases x with
  | none => rfl
  | some y => simp only [evO]; rw [h y (by simp)]

theorem xop_congr (h : ∀ x ∈ p.xs, ev x = ev' x) : xop p ev s = xop p ev' s := by
  cases p
  case len k x =>
    have h1 := h x (by simp [POp.xs])
    unfold xop
    simp only []
    split <;> (try simp_all)
  case sliceSl e x lo hi mx =>
    simp only [xop]
    rw [h x (by simp [POp.xs]), evO_congr (x := lo) fun y hy => h y (by simp [POp.xs]; simp at hy; simp [hy]), evO_congr (x := hi) fun y hy => h y (by simp [POp.xs]; simp at hy; simp [hy]),
      evO_congr (x := mx) fun y hy => h y (by simp [POp.xs]; simp at hy; simp [hy])]
  case sliceArr n e x lo hi mx =>
    simp only [xop]
    rw [h x (by simp [POp.xs]), evO_congr (x := lo) fun y hy => h y (by simp [POp.xs]; simp at hy; simp [hy]), evO_congr (x := hi) fun y hy => h y (by simp [POp.xs]; simp at hy; simp [hy]),
      evO_congr (x := mx) fun y hy => h y (by simp [POp.xs]; simp at hy; simp [hy])]
  case sliceStr x lo hi =>
    simp only [xop]
    rw [h x (by simp [POp.xs]), evO_congr (x := lo) fun y hy => h y (by simp [POp.xs]; simp at hy; simp [hy]), evO_congr (x := hi) fun y hy => h y (by simp [POp.xs]; simp at hy; simp [hy])]
  case build z l => simp only [xop]; rw [fillA_congr h]
  case buildSlice z n l k => simp only [xop]; rw [fillA_congr h]
  case mkFunc f a c => simp only [xop]; rw [evs_congr (l := a) fun x hx => h x (by simp [POp.xs, hx]), evs_congr (l := c) fun x hx => h x (by simp [POp.xs, hx])]
  case minmax m l => simp only [xop]; rw [evs_congr (l := l) h]
  case call f l => rfl
  all_goals
    simp only [xop]
    (try rw [h _ (List.Mem.head _)])
    (try rw [h _ (List.Mem.tail _ (List.Mem.head _))])
    (try rw [h _ (List.Mem.tail _ (List.Mem.tail _ (List.Mem.head _)))])

/-- What neither looks at memory nor turns it. -/
theorem xop_calm (hc : p.cls = 0) (h : xop p ev s = some (v, s')) : s' = s ∧ ∀ u, xop p ev u = some (v, u) := by
  cases p <;> simp only [POp.cls] at hc <;> (try cases hc) <;> simp only [xop] at h ⊢
  all_goals (repeat' split at h)
  all_goals first
    | (cases h; done)
    | (cases h; exact ⟨rfl, fun u => rfl⟩)
    | (cases h; refine ⟨rfl, fun u => ?_⟩; simp_all)

/-- What looks at memory does not turn it. -/
theorem xop_look (hc : p.cls = 1) (h : xop p ev s = some (v, s')) : s' = s := by
  cases p <;> simp only [POp.cls] at hc <;> (try cases hc) <;> unfold xop at h <;> simp only [] at h
  all_goals (repeat' split at h)
  all_goals first
    | (cases h; done)
    | (cases h; rfl)
    | (exfalso; simp_all; done)

theorem opVal_congr {e : Eng} (h : ∀ x ∈ p.xs, ev x = ev' x) : opVal e p ev s = opVal e p ev' s := by
  unfold opVal
  split
  · rename_i f args
    rw [h f (by simp [POp.xs]), evs_congr (l := args) fun x hx => h x (by simp [POp.xs, hx])]
  · exact xop_congr h

/-! ### The whole machine -/

structure EngNext (e : Eng) : Prop where
  call : ∀ {f args s v s'}, e.call f args s = some (v, s') → s.next ≤ s'.next
  ex : ∀ {ro c ts ds s x ts' ds' s'}, e.ex ro c ts ds s = some (x, ts', ds', s') → s.next ≤ s'.next

variable {e : Eng}

theorem roundA_next (he : EngNext e) {r : Nat} {args : List AV} (h : roundA e r args s = some (v, s')) : s.next ≤ s'.next := by
  unfold roundA at h
  split at h
  case h_2 => cases h
  split at h
  case isFalse => cases h
  split at h
  case h_2 => cases h
  rename_i h1
  have n1 := he.ex h1
  split at h
  case h_2 => cases h
  split at h
  case h_2 => cases h
  rename_i h2
  have n2 := he.ex h2
  split at h
  case h_2 => cases h
  simp at n2
  split at h <;> (cases h; simp; omega)

theorem callV_next (he : EngNext e) {f : AV} {args : List AV} (h : callV e f args s = some (v, s')) : s.next ≤ s'.next := by
  unfold callV at h
  split at h
  · exact he.call h
  · exact roundA_next he h
  · cases h

theorem opVal_next (he : EngNext e) (h : opVal e p ev s = some (v, s')) : s.next ≤ s'.next := by
  unfold opVal at h
  split at h
  · repeat' split at h
    all_goals first
      | (cases h; done)
      | exact callV_next he h
  · exact xop_next h

theorem opStep_next (he : EngNext e) {p : PO} {ts ts' : Tr AV} (h : opStep e p ts s = some (ts', s')) : s.next ≤ s'.next := by
  unfold opStep at h
  repeat' split at h
  all_goals first
    | (cases h; done)
    | (cases h; exact Nat.le_refl _)
    | (cases h; exact opVal_next he (by assumption))

theorem runOps_next (he : EngNext e) : ∀ {l : List PO} {ts ts' : Tr AV} {s s' : St}, runOps e l ts s = some (ts', s') → s.next ≤ s'.next
  | [], _, _, _, _, h => by cases h; exact Nat.le_refl _
  | p :: r, ts, ts', s, s', h => by
    simp only [runOps] at h
    split at h
    · cases h
    · exact Nat.le_trans (opStep_next he (by assumption)) (runOps_next he h)

theorem runSnaps_next (he : EngNext e) : ∀ {l : List PO} {ts ts' : Tr AV} {s s' : St} {acc out : List St}, runSnaps e l ts s acc = some (ts', s', out) → s.next ≤ s'.next
  | [], _, _, _, _, _, _, h => by cases h; exact Nat.le_refl _
  | p :: r, ts, ts', s, s', _, _, h => by
    simp only [runSnaps] at h
    split at h
    · cases h
    · exact Nat.le_trans (opStep_next he (by assumption)) (runSnaps_next he h)

theorem takeAll_next : ∀ {l : List Nat} {s s' : St}, takeAll l s = some s' → s'.next = s.next
  | [], _, _, h => by cases h; rfl
  | d :: r, s, s', h => by
    simp only [takeAll] at h
    split at h
    · have := takeAll_next h
      simpa using this
    · cases h

theorem rangeA_next (he : EngNext e) {ro : Option Nat} {f : AV} {params : List Nat} {assign body : PC} {ts ts' : Tr AV} {ds ds' : List Nat} {x : AExit} (h : rangeA e ro f params assign body ts ds s = some (x, ts', ds', s')) : s.next ≤ s'.next := by
  unfold rangeA at h
  split at h
  case h_2 => cases h
  split at h
  case h_1 => cases h
  rename_i l ds1 s2 h0
  have h1 : s.next ≤ s2.next := by
    repeat' split at h0
    all_goals first
      | (cases h0; done)
      | (cases h0; simp; done)
      | (cases h0; simp; omega)
  split at h
  case h_1 => cases h
  rename_i s3 hc
  have h2 := he.call hc
  split at h
  all_goals first
    | (cases h; done)
    | (cases h; simp; omega)

theorem exStep_next (he : EngNext e) {ro : Option Nat} {c : PC} {ts ts' : Tr AV} {ds ds' : List Nat} {x : AExit} (h : exStep e ro c ts ds s = some (x, ts', ds', s')) : s.next ≤ s'.next := by
  cases c with
  | skip => cases h; exact Nat.le_refl _
  | region ops =>
    simp only [exStep] at h
    split at h
    · cases h; exact runOps_next he (by assumption)
    · cases h
  | drawn ops looks =>
    simp only [exStep] at h
    split at h
    · split at h
      · cases h; exact runSnaps_next he (by assumption)
      · cases h
    · cases h
  | seq a b =>
    simp only [exStep] at h
    split at h
    · exact Nat.le_trans (he.ex (by assumption)) (he.ex h)
    · exact he.ex h
  | cond y a b =>
    simp only [exStep] at h
    split at h
    · exact he.ex h
    · exact he.ex h
    · cases h
  | block id a =>
    simp only [exStep] at h
    split at h
    · cases h; exact he.ex (by assumption)
    · exact he.ex h
  | loop a =>
    simp only [exStep] at h
    split at h
    · exact Nat.le_trans (he.ex (by assumption)) (he.ex h)
    · exact he.ex h
  | rangeF f params a b =>
    simp only [exStep] at h
    split at h
    · exact rangeA_next he h
    · cases h
  | exit id => cases h; exact Nat.le_refl _
  | ret => cases h; exact Nat.le_refl _

/-- What is known of functions by their contracts gives out new numbers alone. -/
def SumsNext (SM : Sums) : Prop := ∀ f g args s v s', SM f = some g → g args s = some (v, s') → s.next ≤ s'.next

theorem callStep_next {FT : Fns} {SM : Sums} (hS : SumsNext SM) (he : EngNext e) {f : Nat} {args : List AV} (h : callStep FT SM e f args s = some (v, s')) : s.next ≤ s'.next := by
  unfold callStep at h
  split at h
  · exact hS _ _ _ _ _ _ (by assumption) h
  · split at h
    · cases h
    · split at h
      · unfold finish at h
        repeat' split at h
        all_goals first
          | (cases h; done)
          | (cases h
             have h1 := he.ex (by assumption)
             have h2 := takeAll_next (by assumption)
             omega)
      · cases h

theorem eng_next {FT : Fns} {SM : Sums} (hS : SumsNext SM) : ∀ n, EngNext (eng FT SM n)
  | 0 => ⟨fun h => (by cases h), fun h => (by cases h)⟩
  | n + 1 => ⟨fun h => callStep_next hS (eng_next hS n) h, fun h => exStep_next (eng_next hS n) h⟩
end Go.Proofs.Ytjejgnbdlfkenaa.D
namespace Go.Proofs.Ytjejgnbdlfkenaa.D
variable {P : Program}

def exitOf : AExit → Exit
  | .normal => .normal
  | .exit id => .exit id
  | .ret => .ret

/-- The marks among the deferred calls. -/
def DR (μ : Place) : List Nat → List Deferred → Prop
  | [], [] => True
  | d :: ds, x :: xs => (∃ p, μ d = some p ∧ x = { target := .collected p.1, args := #[] }) ∧ DR μ ds xs
  | _, _ => False

theorem DR.mono {μ ν : Place} (h : μ.le ν) : ∀ {l : List Nat} {m : List Deferred}, DR μ l m → DR ν l m
  | [], [], _ => trivial
  | _ :: _, _ :: _, e => ⟨let ⟨p, h1, h2⟩ := e.1; ⟨p, h _ _ h1, h2⟩, DR.mono h e.2⟩
  | [], _ :: _, e => e.elim
  | _ :: _, [], e => e.elim

/-- What a call gives. -/
def Rets (P : Program) (R : Nat) (μ : Place) (s : St) (w : World) (v : AV) (s' : St) : Ending → World → Prop
  | .returned c, w' => ∃ ν, conc ν v = some c ∧ HR P R ν s' w' ∧ Mv μ s w ν s' w'
  | _, _ => False

/-- How a piece of code is left. -/
def Left (P : Program) (R : Nat) (μ : Place) (s : St) (w : World) (N : Nat) (x : AExit) (ts' : Tr AV) (ds' : List Nat) (s' : St) (e : Exit) (a' : Act) (w' : World) : Prop :=
  e = exitOf x ∧ ∃ ν, TR ν ts' a'.tmps ∧ a'.tmps.size = N ∧ DR ν ds' a'.defers ∧ HR P R ν s' w' ∧ Mv μ s w ν s' w'

def FenceOk (μ : Place) : Option Nat → Fence → Prop
  | none, F => F = Fence.wide
  | some r, F => ∃ p, μ r = some p ∧ F = Fence.wide.inRound p.1

theorem FenceOk.mono {μ ν : Place} (h : μ.le ν) {ro : Option Nat} {F : Fence} (hF : FenceOk μ ro F) : FenceOk ν ro F := by
  cases ro with
  | none => exact hF
  | some r => obtain ⟨p, hp, e⟩ := hF; exact ⟨p, h _ _ hp, e⟩

theorem FenceOk.fn {μ : Place} {ro : Option Nat} {F : Fence} (hF : FenceOk μ ro F) (f : FuncId) : F.fn f := by
  cases ro with
  | none => cases hF; trivial
  | some r => obtain ⟨p, _, rfl⟩ := hF; trivial
theorem FenceOk.depth {μ : Place} {ro : Option Nat} {F : Fence} (hF : FenceOk μ ro F) : F.depth = none := by
  cases ro with
  | none => cases hF; rfl
  | some r => obtain ⟨p, _, rfl⟩ := hF; rfl
theorem FenceOk.inRound {μ : Place} {ro : Option Nat} {F : Fence} (hF : FenceOk μ ro F) (l : Nat) : F.inRound l = Fence.wide.inRound l := by
  cases ro with
  | none => cases hF; rfl
  | some r => obtain ⟨p, _, rfl⟩ := hF; rfl
theorem FenceOk.calls {μ : Place} {ro : Option Nat} {F : Fence} (hF : FenceOk μ ro F) {n : Nat} {f : FuncId} {args : Array Value} {w : World} {R : Ending → World → Prop} (h : CallsIn Fence.wide n P f args w R) : CallsIn F n P f args w R := by
  cases ro with
  | none => cases hF; exact h
  | some r => obtain ⟨p, _, rfl⟩ := hF; exact CallsIn.inRound p.1 h

/-- A loop's body is come to, the loop around it. -/
def LoopIn (F : Fence) (n : Nat) (P : Program) (c : Code) (Q : Exit → Act → World → Prop) (a : Act) (w : World) : Prop :=
  ∀ (b : Frame) (k : List Item) (cs : List Frame), b.roundOf = F.round → F.fn b.fn → F.room (cs.length + 1 + n) →
    ∃ e a' w', Q e a' w' ∧ ArrivesIn (Machine.fenced P F) P (lone (b.atR a (.code c :: .inLoop c :: k)) cs w) b k cs e a' w'

theorem LoopIn.step {F : Fence} {n : Nat} {c : Code} {Q : Exit → Act → World → Prop} {a : Act} {w : World} (h : c.wpIn F n P (Exit.then (LoopIn F n P c Q) Q) a w) : LoopIn F n P c Q a w := by
  intro b k cs hro hb hr
  obtain ⟨e, a₁, w₁, hq, harr⟩ := h b (.inLoop c :: k) cs hro hb hr
  cases e with
  | normal =>
    obtain ⟨e₂, a₂, w₂, hq₂, harr₂⟩ := hq b k cs hro hb hr
    exact ⟨e₂, a₂, w₂, hq₂, .of_steps (StepsIn.trans harr (.one (fenced_calm hb hr rfl) stepR_inLoop)) harr₂⟩
  | exit id => exact ⟨_, a₁, w₁, hq, .pass (x := .inLoop c) rfl (fun _ _ => .inl (by simp)) harr⟩
  | goto l => exact ⟨_, a₁, w₁, hq, .pass (x := .inLoop c) rfl (fun _ _ => .inl (by simp)) harr⟩
  | ret => exact ⟨_, a₁, w₁, hq, .pass (x := .inLoop c) rfl (fun _ _ => .inl (by simp)) harr⟩
  | panic ch => exact ⟨_, a₁, w₁, hq, .pass (x := .inLoop c) rfl (fun _ _ => .inl (by simp)) harr⟩
  | outgrown => exact ⟨_, a₁, w₁, hq, .pass (x := .inLoop c) rfl (fun _ _ => .inl (by simp)) harr⟩

theorem LoopIn.wpIn {F : Fence} {n : Nat} {c : Code} {Q : Exit → Act → World → Prop} {a : Act} {w : World} (h : LoopIn F n P c Q a w) : (Code.loop c).wpIn F n P Q a w := by
  intro b k cs hro hb hr
  obtain ⟨e, a', w', hq, harr⟩ := h b k cs hro hb hr
  exact ⟨e, a', w', hq, .of_steps (.one (fenced_calm hb hr rfl) stepR_loop) harr⟩

theorem LoopIn.mono {F : Fence} {n : Nat} {c : Code} {Q Q' : Exit → Act → World → Prop} {a : Act} {w : World} (h : LoopIn F n P c Q a w) (hq : ∀ e a w, Q e a w → Q' e a w) : LoopIn F n P c Q' a w :=
  fun b k cs hro hb hr => let ⟨e, a', w', q, r⟩ := h b k cs hro hb hr; ⟨e, a', w', hq _ _ _ q, r⟩

structure EngOk (P : Program) (e : Eng) : Prop where
  next : EngNext e
  call : ∀ {f args s v s' R μ w cargs}, e.call f args s = some (v, s') → s'.next ≤ R → HR P R μ s w → concs μ args = some cargs →
    (∃ fn, P.funcs[f]? = some fn ∧ fn.body.isNone = false ∧ (fn.name == "runtime.NumGoroutine") = false) ∧ ∀ n, CallsIn Fence.wide n P f cargs.toArray w (Rets P R μ s w v s')
  ex : ∀ {ro pc ts ds s x ts' ds' s' R μ w c N a F}, e.ex ro pc ts ds s = some (x, ts', ds', s') → s'.next ≤ R → HR P R μ s w → prepC P c = some pc → okPC N pc = true →
    TR μ ts a.tmps → a.tmps.size = N → DR μ ds a.defers → FenceOk μ ro F → ∀ n, c.wpIn F n P (Left P R μ s w N x ts' ds' s') a w
  loop : ∀ {ro pc ts ds s x ts' ds' s' R μ w c N a F}, e.ex ro (.loop pc) ts ds s = some (x, ts', ds', s') → s'.next ≤ R → HR P R μ s w → prepC P c = some pc → okPC N pc = true →
    TR μ ts a.tmps → a.tmps.size = N → DR μ ds a.defers → FenceOk μ ro F → ∀ n, LoopIn F n P c (Left P R μ s w N x ts' ds' s') a w

theorem TR.put {μ : Place} {ts : Tr AV} {tmps : Array Value} (h : TR μ ts tmps) {t : Nat} (ht : t < tmps.size) {v : AV} {c : Value} (hc : conc μ v = some c) : TR μ (ts.set t v) (tmps.setIfInBounds t c) := by
  intro u x hx
  rw [Tr.get_set] at hx
  by_cases e : u = t
  · subst e
    rw [if_pos rfl] at hx; cases hx
    exact ⟨c, by simp [ht], hc⟩
  · rw [if_neg e] at hx
    obtain ⟨y, h1, h2⟩ := h u x hx
    exact ⟨y, by rw [Array.getElem?_setIfInBounds_ne (Ne.symm e)]; exact h1, h2⟩

theorem TR.sets {μ : Place} : ∀ {ps : List Nat} {asg : List AV} {cs : List Value} {ts : Tr AV} {tmps : Array Value}, TR μ ts tmps → concs μ asg = some cs → okNats tmps.size ps = true →
    TR μ (setTs ps asg ts) ((ps.zip cs).foldl (fun tmps (t, a) => tmps.setIfInBounds t a) tmps) ∧ ((ps.zip cs).foldl (fun (tmps : Array Value) (t, a) => tmps.setIfInBounds t a) tmps).size = tmps.size
  | [], _, _, _, _, h, _, _ => ⟨h, rfl⟩
  | p :: ps, [], cs, ts, tmps, h, hc, _ => by
    simp only [concs, Option.some.injEq] at hc; subst hc
    exact ⟨by simpa [setTs] using h, by simp⟩
  | p :: ps, a :: asg, cs, ts, tmps, h, hc, hok => by
    simp only [concs, Option.bind_eq_some_iff, Option.map_eq_some_iff] at hc
    obtain ⟨x, hx, y, hy, rfl⟩ := hc
    simp only [okNats, Bool.and_eq_true, Nat.blt_eq] at hok
    have := TR.sets (ps := ps) (asg := asg) (cs := y) (ts := ts.set p a) (tmps := tmps.setIfInBounds p x) (h.put hok.1 hx) hy (by simpa using hok.2)
    simpa [setTs] using this

theorem conc_yld {μ : Place} {r : Nat} {c : Value} (h : conc μ (.yld r) = some c) : ∃ p, μ r = some p ∧ c = .func (.yield p.1) #[] #[] := by
  simp only [conc, Option.map_eq_some_iff] at h
  obtain ⟨p, hp, rfl⟩ := h
  exact ⟨p, hp, rfl⟩

theorem isNone_jumpCode (x : AExit) : (jumpCode x).isNone = (match x with | .normal => true | _ => false) := by cases x <;> rfl

/-- A loop's record, as it lies. -/
theorem HR.loop {R : Nat} {μ : Place} {s : St} {w : World} (h : HR P R μ s w) {r : Nat} {st : LoopState} {pe : AExit} {ts : Tr AV} {ps : List Nat} {asg bd : PC} {d : Nat} (hg : s.get r = some (.loop st pe ts ps asg bd d)) {p : Nat × Nat} (hp : μ r = some p) :
    ∃ (L : Loop) (q : Nat × Nat), w.heap[p.1]? = some (.loop L) ∧ L.state = st ∧ L.pending = jumpCode pe ∧ TR μ ts L.tmps ∧ L.params.toList = ps ∧ prepC P L.assign = some asg ∧ prepC P L.body = some bd ∧ μ d = some q ∧ L.defers = q.1 ∧
      okNats L.tmps.size ps = true ∧ okPC L.tmps.size asg = true ∧ okPC L.tmps.size bd = true := by
  obtain ⟨p', hp', L, q, h1⟩ := h.obj _ _ hg
  rw [hp] at hp'; cases hp'
  exact ⟨L, q, h1⟩

/-- The record's state and what is pending are turned. -/
theorem HR.loop_turn {R : Nat} {μ : Place} {s : St} {w : World} (h : HR P R μ s w) (hR : s.next ≤ R) {r : Nat} {st st' : LoopState} {pe pe' : AExit} {ts : Tr AV} {ps : List Nat} {asg bd : PC} {d : Nat} (hg : s.get r = some (.loop st pe ts ps asg bd d)) {p : Nat × Nat} (hp : μ r = some p)
    {L : Loop} (hL : w.heap[p.1]? = some (.loop L)) : HR P R μ (s.put r (.loop st' pe' ts ps asg bd d)) (w.putObj p.1 (.loop { L with state := st', pending := jumpCode pe' })) ∧
      Mv μ s w μ (s.put r (.loop st' pe' ts ps asg bd d)) (w.putObj p.1 (.loop { L with state := st', pending := jumpCode pe' })) := by
  obtain ⟨L', q, h1, h2, h3, h4, h5, h6, h7, h8, h9, h10, h11, h12⟩ := h.loop hg hp
  rw [hL] at h1; cases h1
  have hlt : p.1 < w.heap.size := (h.lt _ _ hp).1
  refine h.turn hR hg hp (by simp) ?_ rfl rfl ⟨rfl, fun _ => Nat.le_refl _⟩ (by simp) (fun k hk => World.putObj_heap_other hk)
  exact ⟨_, q, World.putObj_heap_same hlt, rfl, rfl, h4, h5, h6, h7, h8, h9, h10, h11, h12⟩

theorem roundA_sound {e : Eng} (hE : EngOk P e) {r : Nat} {args : List AV} {s s' : St} {v : AV} (hx : roundA e r args s = some (v, s')) {R : Nat} (hR : s'.next ≤ R) {μ : Place} {w : World} (h : HR P R μ s w) {cargs : List Value} (hc : concs μ args = some cargs)
    {p : Nat × Nat} (hp : μ r = some p) {ro : Option Nat} {F : Fence} (hF : FenceOk μ ro F) :
    ∃ f tmps assign body, (Instr.yield p.1 cargs.toArray).run P w = .ok (.round p.1 f tmps assign body) w ∧ ∀ n, RoundIn F n P p.1 f tmps assign body w (Rets P R μ s w v s') := by
  unfold roundA at hx
  split at hx
  case h_2 => cases hx
  rename_i pe0 ts ps asg bd d hg
  split at hx
  case isFalse => cases hx
  rename_i hlen
  split at hx
  case h_2 => cases hx
  rename_i ts1 s1 hx1
  split at hx
  case h_2 => cases hx
  rename_i pe ts2 ps2 as2 bd2 d2 hg1
  split at hx
  case h_2 => cases hx
  rename_i x ts3 s3 hx2
  split at hx
  case h_2 => cases hx
  rename_i st3 pe3 ts4 ps4 as4 bd4 d4 hg3
  obtain ⟨L, q, h1, h2, h3, h4, h5, h6, h7, h8, h9, h10, h11, h12⟩ := h.loop hg hp
  have hcl := concs_length hc
  have hs : cargs.toArray.size = L.params.size := by
    have : L.params.size = ps.length := by rw [← h5]; simp
    simp; omega
  refine ⟨_, _, _, _, run_yield h1 hs, fun n => ?_⟩
  have n1 := hE.next.ex hx1
  have n2 := hE.next.ex hx2
  simp only [St.next_put] at n2
  have n3 : s3.next ≤ s'.next := by split at hx <;> (cases hx; simp)
  obtain ⟨t1, t2⟩ := h4.sets hc h10
  have hfold : (L.params.zip cargs.toArray).foldl (fun (tmps : Array Value) (t, a) => tmps.setIfInBounds t a) L.tmps = (ps.zip cargs).foldl (fun tmps (t, a) => tmps.setIfInBounds t a) L.tmps := by
    rw [← Array.foldl_toList, Array.toList_zip, h5]
  have hfr : FenceOk μ (some r) (F.inRound p.1) := ⟨p, hp, hF.inRound p.1⟩
  refine roundIn_of_wpIn (hF.fn _) ?_
  refine wpIn_mono (hE.ex (R := R) (a := { tmps := _, defers := [] }) (N := L.tmps.size) hx1 (by omega) h h6 h11 (by rw [hfold]; exact t1) (by rw [hfold]; exact t2) (show DR μ [] ([] : List Deferred) from trivial) hfr n) ?_
  rintro ex a1 w1 ⟨rfl, ν, u1, u2, u3, u4, u5⟩
  have hp1 : ν r = some p := u5.le _ _ hp
  obtain ⟨L1, q1, k1, k2, k3, k4, k5, k6, k7, k8⟩ := u4.loop hg1 hp1
  refine ⟨_, run_beginRound k1 k2, ?_⟩
  obtain ⟨b1, b2⟩ := u4.loop_turn (st' := .busy) (pe' := pe) (by omega) hg1 hp1 k1
  have e1 : ({ L1 with state := LoopState.busy, pending := jumpCode pe } : Loop) = { L1 with state := .busy } := by rw [← k3]
  rw [e1] at b1 b2
  refine wpIn_mono (hE.ex (R := R) (N := L.tmps.size) hx2 (by omega) b1 h7 h12 u1 u2 u3 (hfr.mono u5.le) n) ?_
  rintro ex a2 w2 ⟨rfl, ξ, y1, y2, y3, y4, y5⟩
  have hp2 : ξ r = some p := y5.le _ _ hp1
  obtain ⟨L2, q2, m1, m2, m3, m4⟩ := y4.loop hg3 hp2
  have fin : ∀ (x : AExit) (st' : LoopState), st' = (if (jumpCode x).isNone then .ready else .done) → v = .bool (jumpCode x).isNone → s' = s3.put r (.loop st' x ts4 ps4 as4 bd4 d4) →
      ∃ c w', (Instr.endRound p.1 (jumpCode x)).run P w2 = .ok c w' ∧ Rets P R μ s w v s' (.returned c) w' := by
    intro x st' e1 e2 e3
    obtain ⟨c1, c2⟩ := y4.loop_turn (st' := st') (pe' := x) (by omega) hg3 hp2 m1
    refine ⟨_, _, run_endRound _ m1, ξ, ?_, ?_, ?_⟩
    · rw [e2]; rfl
    · rw [e3, ← e1]; exact c1
    · rw [e3, ← e1]; exact (u5.trans b2).trans (y5.trans c2)
  cases x with
  | normal => simp only [Option.some.injEq, Prod.mk.injEq] at hx; obtain ⟨rfl, rfl⟩ := hx; exact fin .normal .ready rfl rfl rfl
  | exit id => simp only [Option.some.injEq, Prod.mk.injEq] at hx; obtain ⟨rfl, rfl⟩ := hx; exact fin (.exit id) .done rfl rfl rfl
  | ret => simp only [Option.some.injEq, Prod.mk.injEq] at hx; obtain ⟨rfl, rfl⟩ := hx; exact fin .ret .done rfl rfl rfl
end Go.Proofs.Ytjejgnbdlfkenaa.D
namespace Go.Proofs.Ytjejgnbdlfkenaa.D
variable {P : Program}

theorem prepBuiltin_call {b : Builtin} {ts : List TypeId} {xs : List X} {f : X} {args : List X} : prepBuiltin P b ts xs ≠ some (.call f args) := by
  intro h
  unfold prepBuiltin prepAppend prepCopy prepLen prepCap prepClear prepDelete at h
  repeat' split at h
  all_goals (cases h)

theorem prepOp_call {o : Oper} {f : X} {args : List X} (h : prepOp P o = some (.call f args)) :
    ∃ c y, o.op = .call c ∧ c.callee = .value y ∧ prepXs c.args.toList = some args ∧ prepX y = some f := by
  cases ho : o.op with
  | call c =>
    cases hc : c.callee with
    | value y =>
      simp only [prepOp, ho, hc] at h
      split at h
      · rename_i xs hxs
        simp only [Option.map_eq_some_iff] at h
        obtain ⟨g, hg, e⟩ := h
        cases e
        exact ⟨c, y, rfl, hc, hxs, hg⟩
      · cases h
    | builtin b =>
      simp only [prepOp, ho, hc] at h
      split at h
      · exact absurd h prepBuiltin_call
      · cases h
    | invoke a b => simp only [prepOp, ho, hc] at h; cases h
  | _ =>
    exfalso
    unfold prepOp at h
    rw [ho] at h
    (try dsimp only at h)
    repeat' split at h
    all_goals first
      | (cases h; done)
      | (simp only [Option.map_eq_some_iff] at h; obtain ⟨_, _, h⟩ := h; cases h; done)
      | (simp_all; done)

theorem prepOp_defer {o : Oper} {q : POp} (h : prepOp P o = some q) : ∀ c, o.op ≠ .defer c := by
  intro c e
  unfold prepOp at h
  rw [e] at h
  cases h

theorem run_callFunc {g : FuncId} {fn : Func} (hf : P.funcs[g]? = some fn) (hb : fn.body.isNone = false) (hn : (fn.name == "runtime.NumGoroutine") = false) (args : Array Value) (w : World) : (callFunc g args).run P w = .ok (.enter g args) w := by
  have hn' : ¬ fn.name = "runtime.NumGoroutine" := by simpa using hn
  have hb' : ¬ fn.body = none := by intro e; rw [e] at hb; cases hb
  simp [callFunc, hf, hb', hn']

theorem opVal_wpIn {e : Eng} (hE : EngOk P e) {o : Oper} {q : POp} (hq : (prepOp P o).getD .fail = q) {ev : Ev} {s s' : St} {v : AV} (hx : opVal e q ev s = some (v, s')) {R : Nat} (hR : s'.next ≤ R) {μ : Place} {w : World} (h : HR P R μ s w) {a : Act} (hρ : EvR μ ev a.eval)
    {ro : Option Nat} {F : Fence} (hF : FenceOk μ ro F) {K : Act → World → Prop} {Q : Exit → Act → World → Prop} (hK : ∀ ν c w', conc ν v = some c → HR P R ν s' w' → Mv μ s w ν s' w' → K (a.put o.dst c) w') (n : Nat) : o.wpIn F n P a w K Q := by
  refine ⟨fun f _ => hF.fn f, ?_⟩
  cases hp : prepOp P o with
  | none => rw [hp] at hq; cases hq; cases hx
  | some q' =>
    rw [hp] at hq; simp only [Option.getD_some] at hq; subst hq
    rw [Oper.semAt_eq _ _ _ (prepOp_defer hp)]
    by_cases hc : ∃ f args, q' = .call f args
    · obtain ⟨f, args, rfl⟩ := hc
      obtain ⟨c, y, ho, hcal, hargs, hy⟩ := prepOp_call hp
      simp only [opVal] at hx
      split at hx
      case h_1 => cases hx
      rename_i fv hfv
      split at hx
      case h_1 => cases hx
      rename_i l hl
      have c1 := hρ _ _ _ hy hfv
      have c2 := evs_conc hargs hρ hl
      unfold callV at hx
      split at hx
      · rename_i g first captured
        obtain ⟨xs, ys, _, hxs, hys, e1⟩ := conc_fn c1
        obtain ⟨⟨fn, f1, f2, f3⟩, hcall⟩ := hE.call hx hR h (concs_append (concs_append hxs c2) hys)
        have hrun : (execOp a.eval o).run P w = .ok (.enter g (xs ++ c.args.toList.map a.eval ++ ys).toArray) w := by
          simp only [execOp, ho, resolve, hcal, e1, Deferred.ofValue, Sem.run_bind, Sem.run_pure, Result.andThen_ok, invoke]
          rw [run_callFunc f1 f2 f3]
          simp
        rw [hrun, Oper.uponIn_enter]
        refine ⟨fun hd => (by rw [hF.depth] at hd; cases hd), (hF.calls (hcall (n - 1))).mono ?_⟩
        intro en w' hr
        cases en with
        | returned cv => obtain ⟨ν, h1, h2, h3⟩ := hr; exact hK ν cv w' h1 h2 h3
        | panicked _ => exact hr.elim
        | outgrown => exact hr.elim
      · rename_i r
        obtain ⟨p, hpr, e1⟩ := conc_yld c1
        obtain ⟨g, tmps, asg, bd, hy', hround⟩ := roundA_sound hE hx hR h c2 hpr hF
        have hrun : (execOp a.eval o).run P w = .ok (.round p.1 g tmps asg bd) w := by
          simp only [execOp, ho, resolve, hcal, e1, Deferred.ofValue, Sem.run_bind, Sem.run_pure, Result.andThen_ok, invoke]
          have : (#[] ++ c.args.map a.eval : Array Value) = (c.args.toList.map a.eval).toArray := by apply Array.ext'; simp
          rw [this, hy']
        rw [hrun, Oper.uponIn_round]
        refine ⟨fun hd => (by rw [hF.depth] at hd; cases hd), (hround (n - 1)).mono ?_⟩
        intro en w' hr
        cases en with
        | returned cv => obtain ⟨ν, h1, h2, h3⟩ := hr; exact hK ν cv w' h1 h2 h3
        | panicked _ => exact hr.elim
        | outgrown => exact hr.elim
      · cases hx
    · have hx' : xop q' ev s = some (v, s') := by
        unfold opVal at hx
        split at hx
        · exact absurd ⟨_, _, rfl⟩ hc
        · exact hx
      obtain ⟨ν, c, w', hg, h1, h2, h3⟩ := xop_sound hp h hρ hx' hR
      rcases hg with hg | ⟨hg, rfl⟩
      · rw [hg, Oper.uponIn_value]; exact hK ν c w' h1 h2 h3
      · rw [hg, Oper.uponIn_skip]; exact hK ν _ w' h1 h2 h3

/-- Whether an operation is carried out. -/
theorem wanted_of {o : Oper} {ops : List Oper} {p : PO} (hp : prepPO P ops o = some p) {ts : Tr AV} {b : Bool} (hb : wantedA p.guard ts = some b) {μ : Place} {tmps : Array Value}
    (hg : ∀ t k, p.guard = some (t, k) → ∀ v, ts.get t = some v → ∃ c, tmps[t]? = some c ∧ conc μ v = some c) : Region.wanted o (yielded ops.toArray tmps) = b := by
  unfold prepPO at hp
  unfold Region.wanted
  cases hgd : o.guard with
  | none =>
    rw [hgd] at hp
    simp only [Option.some.injEq] at hp
    subst hp
    simp only [wantedA, Option.some.injEq] at hb
    exact hb
  | some jw =>
    obtain ⟨j, want⟩ := jw
    rw [hgd] at hp
    simp only [] at hp
    split at hp
    case h_2 => cases hp
    rename_i t ht
    cases hp
    simp only [wantedA] at hb
    have hy : ∀ c, tmps[t]? = some c → yielded ops.toArray tmps j = (match c with | .bool b => some b | _ => none) := by
      intro c hc
      unfold yielded
      rw [List.getElem?_toArray, ht]
      simp only [Option.bind_some, hc]
      cases c <;> rfl
    show (yielded ops.toArray tmps j == some want) = b
    split at hb
    · rename_i x hx
      obtain ⟨c, h1, h2⟩ := hg t want rfl _ hx
      simp only [conc, Option.some.injEq] at h2
      subst h2
      rw [hy _ h1]
      simp only [Option.some.injEq] at hb
      rw [← hb]
      simp
    · rename_i hx
      obtain ⟨c, h1, h2⟩ := hg t want rfl _ hx
      simp only [conc, concs, Option.map_some, Option.some.injEq] at h2
      subst h2
      rw [hy _ h1]
      simpa using hb
    · cases hb
end Go.Proofs.Ytjejgnbdlfkenaa.D
namespace Go.Proofs.Ytjejgnbdlfkenaa.D
variable {P : Program}

theorem evR_of {μ : Place} {ts : Tr AV} {a : Act} (hg : TR μ ts a.tmps) : EvR μ (evOf ts) a.eval := by
  intro y x v hy hv
  cases y with
  | tmp t =>
    simp only [prepX, Option.some.injEq] at hy
    subst hy
    obtain ⟨c, h1, h2⟩ := hg t v hv
    rw [h2]
    simp [Act.eval, h1]
  | const u =>
    simp only [prepX, Option.map_eq_some_iff] at hy
    obtain ⟨b, hb, rfl⟩ := hy
    simp only [evOf, Option.some.injEq] at hv
    subst hv
    exact absV_conc hb μ
  | func f =>
    simp only [prepX, Option.some.injEq] at hy
    subst hy
    simp only [evOf, Option.some.injEq] at hv
    subst hv
    simp [conc, Fn.plain, concs, Act.eval]
  | global g => cases hy

theorem prepPO_op {ops : List Oper} {o : Oper} {p : PO} (h : prepPO P ops o = some p) : (prepOp P o).getD .fail = p.op ∧ p.dst = o.dst := by
  unfold prepPO at h
  split at h
  · cases h; exact ⟨rfl, rfl⟩
  · split at h <;> cases h
    exact ⟨rfl, rfl⟩

theorem TR.putT {μ : Place} {ts : Tr AV} {a : Act} (h : TR μ ts a.tmps) {d : Option Nat} (hd : ∀ t, d = some t → t < a.tmps.size) {v : AV} {c : Value} (hc : conc μ v = some c) : TR μ (putT d v ts) (a.put d c).tmps := by
  cases d with
  | none => exact h
  | some t => exact h.put (hd t rfl) hc

theorem put_size (a : Act) (d : Option Nat) (c : Value) : (a.put d c).tmps.size = a.tmps.size := by
  cases d <;> simp [Act.put]
theorem put_defers (a : Act) (d : Option Nat) (c : Value) : (a.put d c).defers = a.defers := by
  cases d <;> rfl

theorem conc_undef (μ : Place) : conc μ undefA = some undef := by simp [undefA, conc, concs, undef]

theorem ops_wpIn {e : Eng} (hE : EngOk P e) {ops : Array Oper} {R N : Nat} {ds : List Nat} {ro : Option Nat} {F : Fence} {n : Nat} {Q : Exit → Act → World → Prop} {ts' : Tr AV} {s' : St} :
    ∀ (rest : List Oper) (ps : List PO) (k : Nat) (a : Act) (ts : Tr AV) (s : St) (w : World) (μ : Place), prepPOs P ops.toList rest = some ps → (∀ i, rest[i]? = ops[k + i]?) → runOps e ps ts s = some (ts', s') → s'.next ≤ R → HR P R μ s w →
      TR μ ts a.tmps → a.tmps.size = N → okPOs N ps = true → DR μ ds a.defers → FenceOk μ ro F →
      (∀ ν a' w', TR ν ts' a'.tmps → a'.tmps.size = N → DR ν ds a'.defers → HR P R ν s' w' → Mv μ s w ν s' w' → Q .normal a' w') → wpOpsIn F n P ops Q (List.range' k rest.length) a w := by
  intro rest
  induction rest with
  | nil =>
    intro ps k a ts s w μ hp _ hx hR h ht hN _ hd hF hQ
    cases hp
    cases hx
    exact hQ μ a w ht hN hd h (Mv.refl h hR)
  | cons o rest ih =>
    intro ps k a ts s w μ hp hi hx hR h ht hN hok hd hF hQ
    simp only [prepPOs] at hp
    split at hp
    case h_2 => cases hp
    rename_i p hp1
    split at hp
    case h_2 => cases hp
    rename_i l hp2
    cases hp
    simp only [runOps] at hx
    split at hx
    case h_1 => cases hx
    rename_i ts1 s1 hs
    have n1 := opStep_next hE.next hs
    have n2 := runOps_next hE.next hx
    have hok1 : okPOs N l = true := by simp only [okPOs, Bool.and_eq_true] at hok; exact hok.2
    have hdst : ∀ t, o.dst = some t → t < a.tmps.size := by
      intro t e'
      obtain ⟨_, e2⟩ := prepPO_op hp1
      simp only [okPOs, Bool.and_eq_true] at hok
      have := hok.1
      rw [e2, e'] at this
      rw [hN]
      simpa using this
    have hk : ops[k]? = some o := by have := hi 0; simpa using this.symm
    have hi' : ∀ i, rest[i]? = ops[k + 1 + i]? := by
      intro i
      have := hi (i + 1)
      rw [List.getElem?_cons_succ] at this
      rw [this]; congr 1; omega
    have hops : ops = ops.toList.toArray := by simp
    obtain ⟨e1, e2⟩ := prepPO_op hp1
    simp only [List.length_cons, List.range'_succ, wpOpsIn, hk]
    unfold opStep at hs
    split at hs
    case h_1 => cases hs
    · rename_i hw
      cases hs
      have := wanted_of hp1 hw (μ := μ) (tmps := a.tmps) (fun t _ _ v hv => ht t v hv)
      rw [← hops] at this
      rw [this]
      simp only [Bool.false_eq_true, if_false]
      refine ⟨fun f _ => hF.fn f, ?_⟩
      refine ih l (k + 1) _ _ s w μ hp2 hi' hx hR h ?_ (by rw [put_size]; exact hN) hok1 (by rw [put_defers]; exact hd) hF hQ
      rw [e2]
      exact ht.putT hdst (conc_undef μ)
    · rename_i hw
      split at hs
      case h_1 => cases hs
      rename_i v s2 hv
      cases hs
      have := wanted_of hp1 hw (μ := μ) (tmps := a.tmps) (fun t _ _ v hv => ht t v hv)
      rw [← hops] at this
      rw [this]
      simp only [if_true]
      refine opVal_wpIn hE e1 hv (by omega) h (evR_of ht) hF ?_ n
      intro ν c w1 h1 h2 h3
      refine ih l (k + 1) _ _ s1 w1 ν hp2 hi' hx hR h2 ?_ (by rw [put_size]; exact hN) hok1 (by rw [put_defers]; exact hd.mono h3.le) (hF.mono h3.le) ?_
      · rw [e2]
        exact (ht.mono h3.le).putT hdst h1
      · intro ξ a' w' u1 u2 u3 u4 u5
        exact hQ ξ a' w' u1 u2 u3 u4 (h3.trans u5)
end Go.Proofs.Ytjejgnbdlfkenaa.D
namespace Go.Proofs.Ytjejgnbdlfkenaa.D
variable {P : Program}

mutual
theorem same_eq : ∀ {a b : AV}, same a b = true → a = b
  | .bool a, b, h => by cases b <;> simp [same] at h; subst h; rfl
  | .int k a, b, h => by cases b <;> simp [same] at h; obtain ⟨rfl, rfl⟩ := h; rfl
  | .str a, b, h => by
    cases b <;> simp [same] at h
    congr 1
    cases a; cases ‹ByteArray›
    simp only at h
    congr 1
  | .ptr a b, c, h => by cases c <;> simp [same] at h; obtain ⟨rfl, rfl⟩ := h; rfl
  | .nilPtr, b, h => by cases b <;> simp [same] at h; rfl
  | .slice .., b, h => by cases b <;> simp [same] at h; obtain ⟨⟨⟨⟨rfl, rfl⟩, rfl⟩, rfl⟩, rfl⟩ := h; rfl
  | .nilSlice, b, h => by cases b <;> simp [same] at h; rfl
  | .tail .., b, h => by cases b <;> simp [same] at h; obtain ⟨⟨rfl, rfl⟩, rfl⟩ := h; rfl
  | .map a, b, h => by cases b <;> simp [same] at h; subst h; rfl
  | .nilMap, b, h => by cases b <;> simp [same] at h; rfl
  | .nilFn, b, h => by cases b <;> simp [same] at h; rfl
  | .nilIface, b, h => by cases b <;> simp [same] at h; rfl
  | .iface t v, b, h => by
    cases b <;> simp [same] at h
    obtain ⟨rfl, h⟩ := h
    rw [same_eq h]
  | .agg l, b, h => by
    cases b <;> simp [same] at h
    rw [sames_eq h]
  | .tup l, b, h => by
    cases b <;> simp [same] at h
    rw [sames_eq h]
  | .raw v, b, h => by
    cases b <;> simp [same] at h
    rw [sameV_eq h]
  | .fn .., b, h => by cases b <;> simp [same] at h
  | .yld .., b, h => by cases b <;> simp [same] at h
theorem sames_eq : ∀ {l m : List AV}, sames l m = true → l = m
  | [], m, h => by cases m <;> simp [sames] at h; rfl
  | x :: l, m, h => by
    cases m with
    | nil => simp [sames] at h
    | cons y m =>
      simp only [sames, Bool.and_eq_true] at h
      rw [same_eq h.1, sames_eq h.2]
end

theorem all_zipIdx {α : Type} {l : List α} {f : α × Nat → Bool} : l.zipIdx.all f = true ↔ ∀ i p, l[i]? = some p → f (p, i) = true := by
  rw [List.all_eq_true]
  constructor
  · intro h i p hp
    exact h (p, i) (List.mem_zipIdx_iff_getElem?.2 hp)
  · intro h x hx
    exact h x.2 x.1 (List.mem_zipIdx_iff_getElem?.1 hx)

theorem getD_app {l m : List Nat} {k : Nat} (h : k < l.length) : (l ++ m).getD k 0 = l.getD k 0 := by
  rw [List.getD_eq_getElem?_getD, List.getD_eq_getElem?_getD, List.getElem?_append_left h]
theorem getD_out {l : List Nat} {k : Nat} (h : l.length ≤ k) : l.getD k 0 = 0 := by
  rw [List.getD_eq_getElem?_getD, List.getElem?_eq_none h]; rfl

theorem snoc_rec {α : Type} {p : List α → Prop} (h0 : p []) (h1 : ∀ l x, p l → p (l ++ [x])) (l : List α) : p l := by
  have : ∀ m : List α, p m.reverse := by
    intro m
    induction m with
    | nil => exact h0
    | cons x m ih => rw [List.reverse_cons]; exact h1 _ _ ih
  have := this l.reverse
  rwa [List.reverse_reverse] at this

/-! ### What comes before what -/

def beforeOne (acc : List Nat) (o : Oper) : Nat := o.after.toList.foldl (fun s e => if Region.binds .any e then s ||| 2 ^ e.on ||| acc.getD e.on 0 else s) 0

theorem befores_snoc (l : List Oper) (o : Oper) : befores (l ++ [o]) = befores l ++ [beforeOne (befores l) o] := by
  simp [befores, beforeOne]

theorem befores_length (l : List Oper) : (befores l).length = l.length := by
  induction l using snoc_rec with
  | h0 => rfl
  | h1 l o ih => rw [befores_snoc]; simp [ih]

theorem beforeOne_bit {acc : List Nat} {j : Nat} : ∀ (es : List Edge) (s : Nat), (es.foldl (fun s e => if Region.binds .any e then s ||| 2 ^ e.on ||| acc.getD e.on 0 else s) s).testBit j = true →
    s.testBit j = true ∨ ∃ e ∈ es, Region.binds .any e = true ∧ (j = e.on ∨ (acc.getD e.on 0).testBit j = true)
  | [], s, h => .inl h
  | e :: es, s, h => by
    rw [List.foldl_cons] at h
    rcases beforeOne_bit es _ h with h1 | ⟨e', he, h1⟩
    · by_cases hb : Region.binds .any e = true
      · rw [if_pos hb] at h1
        simp only [Nat.testBit_or, Bool.or_eq_true, Nat.testBit_two_pow, decide_eq_true_eq] at h1
        rcases h1 with (h1 | h1) | h1
        · exact .inl h1
        · exact .inr ⟨e, by simp, hb, .inl h1.symm⟩
        · exact .inr ⟨e, by simp, hb, .inr h1⟩
      · rw [if_neg hb] at h1; exact .inl h1
    · exact .inr ⟨e', by simp [he], h1⟩

theorem ahead_step {j : Nat} : ∀ (ops : List Oper) (i : Nat), ahead (befores ops) j i = true → ∃ o e, ops[i]? = some o ∧ e ∈ o.after.toList ∧ Region.binds .any e = true ∧ (j = e.on ∨ ahead (befores ops) j e.on = true) := by
  intro ops
  induction ops using snoc_rec with
  | h0 => intro i h; simp [ahead, befores] at h
  | h1 l o ih =>
    intro i h
    have hlen := befores_length l
    have up : ∀ k, ahead (befores l) j k = true → ahead (befores (l ++ [o])) j k = true := by
      intro k hk
      unfold ahead at hk ⊢
      rw [befores_snoc]
      by_cases hkl : k < (befores l).length
      · rw [getD_app hkl]; exact hk
      · rw [getD_out (by omega)] at hk; simp at hk
    by_cases hi : i < l.length
    · have h' : ahead (befores l) j i = true := by
        unfold ahead at h ⊢
        rw [befores_snoc, getD_app (by omega)] at h
        exact h
      obtain ⟨o', e, h1, h2, h3, h4⟩ := ih i h'
      exact ⟨o', e, by rw [List.getElem?_append_left hi]; exact h1, h2, h3, h4.imp id (up _)⟩
    · by_cases hi' : i = l.length
      · subst hi'
        unfold ahead at h
        rw [befores_snoc] at h
        have : (befores l ++ [beforeOne (befores l) o]).getD l.length 0 = beforeOne (befores l) o := by
          rw [← hlen]; simp
        rw [this] at h
        rcases beforeOne_bit _ _ h with h1 | ⟨e, he, hb, h1⟩
        · simp at h1
        · exact ⟨o, e, by simp, he, hb, h1.imp id (up _)⟩
      · exfalso
        unfold ahead at h
        rw [befores_snoc, getD_out (by simp; omega)] at h
        simp at h

theorem edgesOk_lt {ops : List Oper} (h : edgesOk ops = true) {i : Nat} {o : Oper} (ho : ops[i]? = some o) {e : Edge} (he : e ∈ o.after.toList) (hb : Region.binds .any e = true) : e.on < i := by
  have := all_zipIdx.1 h i o ho
  simp only [List.all_eq_true] at this
  have := this e he
  simp only [hb, Bool.not_true, Bool.false_or, Nat.blt_eq] at this
  exact this

theorem ahead_lt {ops : List Oper} (h : edgesOk ops = true) {j : Nat} : ∀ (i : Nat), ahead (befores ops) j i = true → j < i := by
  intro i
  induction i using Nat.strongRecOn with
  | _ i ih =>
    intro ha
    obtain ⟨o, e, h1, h2, h3, h4⟩ := ahead_step ops i ha
    have hlt := edgesOk_lt h h1 h2 h3
    rcases h4 with rfl | h4
    · exact hlt
    · exact Nat.lt_trans (ih _ hlt h4) hlt

/-- What is ahead of something in a set that is closed lies in it. -/
theorem ahead_closed {ops : List Oper} (h : edgesOk ops = true) {S : Nat → Prop} (hS : ∀ i o, S i → ops[i]? = some o → ∀ e ∈ o.after.toList, Region.binds .any e = true → S e.on) {j : Nat} :
    ∀ (i : Nat) (o : Oper), ops[i]? = some o → (∀ e ∈ o.after.toList, Region.binds .any e = true → S e.on) → ahead (befores ops) j i = true → S j := by
  intro i
  induction i using Nat.strongRecOn with
  | _ i ih =>
    intro o ho hi ha
    obtain ⟨o', e, h1, h2, h3, h4⟩ := ahead_step ops i ha
    rw [ho] at h1; cases h1
    have hlt := edgesOk_lt h ho h2 h3
    have hs := hi e h2 h3
    rcases h4 with rfl | h4
    · exact hs
    · obtain ⟨o2, _, g1, _⟩ := ahead_step ops e.on h4
      exact ih _ hlt o2 g1 (fun e' he' hb => hS _ _ hs g1 e' he' hb) h4

/-! ### The trace of a run -/

theorem trace {e : Eng} : ∀ (l : List PO) (ts ts' : Tr AV) (s s' : St) (acc snaps : List St), runSnaps e l ts s acc = some (ts', s', snaps) →
    ∃ (TS : Nat → Tr AV) (SS : Nat → St), TS 0 = ts ∧ SS 0 = s ∧ TS l.length = ts' ∧ SS l.length = s' ∧ (∀ i p, l[i]? = some p → opStep e p (TS i) (SS i) = some (TS (i + 1), SS (i + 1))) ∧
      ∀ i, i ≤ l.length → snaps.reverse[acc.length + i]? = some (SS i)
  | [], ts, ts', s, s', acc, snaps, h => by
    simp only [runSnaps, Option.some.injEq, Prod.mk.injEq] at h
    obtain ⟨rfl, rfl, rfl⟩ := h
    refine ⟨fun _ => ts, fun _ => s, rfl, rfl, rfl, rfl, by intro i p hp; simp at hp, ?_⟩
    intro i hi
    have : i = 0 := by simpa using hi
    subst this
    simp
  | p :: l, ts, ts', s, s', acc, snaps, h => by
    simp only [runSnaps] at h
    split at h
    case h_1 => cases h
    rename_i ts1 s1 h1
    obtain ⟨TS, SS, e1, e2, e3, e4, e5, e6⟩ := trace l _ _ _ _ _ _ h
    refine ⟨fun i => match i with | 0 => ts | i + 1 => TS i, fun i => match i with | 0 => s | i + 1 => SS i, rfl, rfl, e3, e4, ?_, ?_⟩
    · intro i q hq
      cases i with
      | zero =>
        simp only [List.getElem?_cons_zero, Option.some.injEq] at hq
        subst hq
        simp only [e1, e2, h1]
      | succ i =>
        rw [List.getElem?_cons_succ] at hq
        exact e5 i q hq
    · intro i hi
      cases i with
      | zero =>
        have hpre : ∀ (l : List PO) (ts ts' : Tr AV) (s s' : St) (acc snaps : List St), runSnaps e l ts s acc = some (ts', s', snaps) → ∃ r, snaps = r ++ acc := by
          intro l
          induction l with
          | nil => intro ts ts' s s' acc snaps h; cases h; exact ⟨[s], rfl⟩
          | cons p l ih =>
            intro ts ts' s s' acc snaps h
            simp only [runSnaps] at h
            split at h
            · cases h
            · obtain ⟨r, hr⟩ := ih _ _ _ _ _ _ h
              exact ⟨r ++ [s], by rw [hr]; simp⟩
        obtain ⟨r, hr⟩ := hpre _ _ _ _ _ _ _ h
        rw [hr]
        simp
      | succ i =>
        have := e6 i (by simpa using hi)
        rw [← this]
        congr 1
        simp
        omega

theorem opStep_spec {e : Eng} {p : PO} {ts ts' : Tr AV} {s s' : St} (h : opStep e p ts s = some (ts', s')) :
    ∃ v, ts' = putT p.dst v ts ∧ ((wantedA p.guard ts = some false ∧ v = undefA ∧ s' = s) ∨ (wantedA p.guard ts = some true ∧ opVal e p.op (evOf ts) s = some (v, s'))) := by
  unfold opStep at h
  split at h
  case h_1 => cases h
  · rename_i hw
    cases h
    exact ⟨undefA, rfl, .inl ⟨hw, rfl, rfl⟩⟩
  · rename_i hw
    split at h
    case h_1 => cases h
    rename_i v s2 hv
    cases h
    exact ⟨v, rfl, .inr ⟨hw, hv⟩⟩

theorem opVal_xop {e : Eng} {p : POp} (hc : p.cls ≠ 2) (ev : Ev) (s : St) : opVal e p ev s = xop p ev s := by
  unfold opVal
  split
  · exact absurd rfl hc
  · rfl

/-! ### A block that is laid early -/

theorem cls3 {p : POp} (h : p.cls = 3) : (∃ z, p = .alloc z) ∨ (∃ x, p = .box x) ∨ ∃ z n l k, p = .buildSlice z n l k := by
  cases p <;> first
    | exact .inl ⟨_, rfl⟩
    | exact .inr (.inl ⟨_, rfl⟩)
    | exact .inr (.inr ⟨_, _, _, _, rfl⟩)
    | (exact absurd h (by simp [POp.cls]))

theorem prepBuiltin_cls {b : Builtin} {ts : List TypeId} {xs : List X} {p : POp} (hp : prepBuiltin P b ts xs = some p) (h3 : p.cls = 3) : False := by
  unfold prepBuiltin prepAppend prepCopy prepLen prepCap prepClear prepDelete at hp
  rcases cls3 h3 with ⟨z, rfl⟩ | ⟨x, rfl⟩ | ⟨z, n, l, k, rfl⟩ <;> (repeat' split at hp) <;> cases hp

theorem late_run {o : Oper} {p : POp} (hp : prepOp P o = some p) (h3 : p.cls = 3) {ev : Ev} {s s' : St} {v : AV} (hx : xop p ev s = some (v, s')) :
    ∃ (vs : List AV) (f : Nat → AV), v = f s.next ∧ s' = s.new (.cells vs false false 0) ∧ ∀ {μ : Place} {ρ : Operand → Value} {w : World}, EvR μ ev ρ →
      ∃ (c : Array Value) (elem : TypeId) (fz : Nat × Nat) (cv : Value), (execOp ρ o).run P w = .ok (.value cv) { w with heap := w.heap.push (.cells c elem fz), drawn := w.drawn } ∧ concs μ vs = some c.toList ∧
        (∀ i, i < c.size → ¬ (fz.1 ≤ i ∧ i < fz.2)) ∧ ∀ (ν : Place) b, ν b = some (w.heap.size, 0) → conc ν (f b) = some cv := by
  cases ho : o.op with
  | alloc e =>
    simp only [prepOp, ho, Option.map_eq_some_iff] at hp
    obtain ⟨z, hz, rfl⟩ := hp
    obtain ⟨zv, hzr, hzc⟩ := zeroB_some hz
    simp only [xop, newA, Option.some.injEq, Prod.mk.injEq] at hx
    obtain ⟨rfl, rfl⟩ := hx
    refine ⟨z, fun b => .ptr b 0, rfl, rfl, ?_⟩
    intro μ ρ w _
    refine ⟨zv.cells, e, (0, 0), .pointer (some ⟨w.heap.size, 0, none⟩), ?_, hzc μ, by intro i _; simp, fun ν b hb => by simp [conc, hb]⟩
    simp [execOp, ho, Instr.alloc, hzr, newVar, newRow]
  | box e x =>
    simp only [prepOp, ho, Option.map_eq_some_iff] at hp
    obtain ⟨a, ha, rfl⟩ := hp
    simp only [xop] at hx
    split at hx
    · rename_i u hu
      simp only [newA, Option.some.injEq, Prod.mk.injEq] at hx
      obtain ⟨rfl, rfl⟩ := hx
      refine ⟨u.cells, fun b => .ptr b 0, rfl, rfl, ?_⟩
      intro μ ρ w hρ
      have hc := hρ _ _ _ ha hu
      refine ⟨(ρ x).cells, e, (0, 0), .pointer (some ⟨w.heap.size, 0, none⟩), ?_, conc_cells hc, by intro i _; simp, fun ν b hb => by simp [conc, hb]⟩
      simp [execOp, ho, Instr.box, newVar, newRow]
    · cases hx
  | buildSlice t n parts =>
    simp only [prepOp, ho] at hp
    split at hp
    case h_2 => cases hp
    rename_i e hu
    split at hp
    case h_2 => cases hp
    rename_i sz z hsz hz
    split at hp
    case isFalse => cases hp
    rename_i hcond
    simp only [Bool.and_eq_true, beq_iff_eq, decide_eq_true_eq] at hcond
    obtain ⟨hszl, hle⟩ := hcond
    simp only [Option.map_eq_some_iff] at hp
    obtain ⟨pp, hpp, rfl⟩ := hp
    simp only [xop] at hx
    split at hx
    case h_2 => cases hx
    rename_i l hl
    simp only [newA, Option.some.injEq, Prod.mk.injEq] at hx
    obtain ⟨rfl, rfl⟩ := hx
    obtain ⟨zv, hzr, hzc⟩ := zeroB_some hz
    refine ⟨l, fun b => .slice b 0 n n false, rfl, rfl, ?_⟩
    intro μ ρ w hρ
    have hzl := concs_length (hzc μ)
    simp at hzl
    have hzs := concs_rep (hzc μ) n
    obtain ⟨cs, h1, h2⟩ := run_fill hpp hρ (zs := (List.replicate n zv.cells.toList).flatten.toArray) (by rw [hzs]) hl
    refine ⟨cs, e, (0, 0), .slice (some ⟨w.heap.size, 0, none⟩) n n, ?_, h2, by intro i _; simp, fun ν b hb => by simp [conc, hb]⟩
    have hge : ¬ (n * sz > 2 ^ 24) := by omega
    have hzv : zv.cells.size = sz := by omega
    have hr := range_mod_flatten zv.cells n
    rw [hzv] at hr
    simp only [execOp, ho, Instr.buildSlice, Sem.run_bind, run_und hu, Result.andThen_ok, run_size hsz, if_neg hge, Sem.run_pure]
    by_cases h0 : n * sz = 0
    · have hrep : (List.replicate n zv.cells.toList).flatten.toArray = #[] := by
        rw [← hr, h0]; simp
      rw [hrep] at h1
      have hz0 : Array.range 0 = #[] := by simp
      simp only [h0, if_true, Sem.run_pure, Result.andThen_ok, hz0, List.map_toArray, List.map_nil, Sem.run_bind]
      simp [h1, newRow]
    · simp only [if_neg h0, Sem.run_bind, hzr, Result.andThen_ok, Sem.run_pure, hzv, hr]
      simp [h1, newRow]
  | call c =>
    exfalso
    cases hc : c.callee with
    | value y =>
      simp only [prepOp, ho, hc] at hp
      split at hp
      · simp only [Option.map_eq_some_iff] at hp
        obtain ⟨x, _, rfl⟩ := hp
        cases h3
      · cases hp
    | builtin b =>
      simp only [prepOp, ho, hc] at hp
      split at hp
      · exact prepBuiltin_cls hp h3
      · cases hp
    | invoke a b => simp only [prepOp, ho, hc] at hp; cases hp
  | _ =>
    exfalso
    rcases cls3 h3 with ⟨z, rfl⟩ | ⟨x, rfl⟩ | ⟨z, n, l, k, rfl⟩
    all_goals
      unfold prepOp at hp
      rw [ho] at hp
      (try dsimp only at hp)
      repeat' split at hp
      all_goals first
        | (cases hp; done)
        | (simp only [Option.map_eq_some_iff] at hp; obtain ⟨_, _, hp⟩ := hp; cases hp; done)
        | (simp_all; done)
end Go.Proofs.Ytjejgnbdlfkenaa.D
namespace Go.Proofs.Ytjejgnbdlfkenaa.D
variable {P : Program}

theorem Mv.through {μ ν ξ : Place} {s S1 S2 : St} {w w' w'' : World} {N : Nat} (h : Mv μ s w ν { S1 with next := N } w') (h1 : s.next ≤ S1.next) (k : Mv ν S1 w' ξ S2 w'') (h2 : S2.next ≤ N) : Mv μ s w ξ { S2 with next := N } w'' := by
  have kn := k.next
  have hres : ∀ b p, μ b = some p → b < s.next ∨ N ≤ b := h.res
  have hfresh : ∀ b p, ν b = some p → μ b = some p ∨ (s.next ≤ b ∧ b < N ∧ (w.heap.size ≤ p.1 ∨ ∃ c q, c < s.next ∧ μ c = some q ∧ q.1 = p.1)) := h.fresh
  refine ⟨Place.le_trans h.le k.le, k.os.trans h.os, k.output.trans h.output, k.tape.trans h.tape, Nat.le_trans h.size k.size, h.next, hres, ?_, ?_, ?_⟩
  · intro b p hb
    rcases k.fresh b p hb with hq | ⟨g1, g2, hq | ⟨c, q, hc1, hc, e⟩⟩
    · exact hfresh b p hq
    · exact .inr ⟨by omega, show b < N by omega, .inl (Nat.le_trans h.size hq)⟩
    · refine .inr ⟨by omega, show b < N by omega, ?_⟩
      rcases hfresh c q hc with h3 | ⟨h3, h4, h5 | ⟨d, q', hd1, hd, e'⟩⟩
      · rcases hres c q h3 with h4 | h4
        · exact .inr ⟨c, q, h4, h3, e⟩
        · omega
      · exact .inl (by omega)
      · exact .inr ⟨d, q', hd1, hd, e'.trans e⟩
  · intro i hi hn
    rw [k.frame i (Nat.lt_of_lt_of_le hi h.size) ?_, h.frame i hi hn]
    intro b p hb1 hb e
    rcases hfresh b p hb with h3 | ⟨h3, h4, h5 | ⟨d, q', hd1, hd, e'⟩⟩
    · rcases hres b p h3 with h4 | h4
      · exact hn _ _ h4 h3 e
      · omega
    · omega
    · exact hn _ _ hd1 hd (e'.trans e)
  · intro b vs l e p hs hp
    obtain ⟨g1, g2⟩ := h.ro b vs l e p hs hp
    obtain ⟨k1, k2⟩ := k.ro b vs l e p g1 (h.le _ _ hp)
    exact ⟨k1, k2.trans g2⟩

/-- The numbers that may be given ahead are others. -/
theorem HR.at_R {R R' : Nat} {μ : Place} {s : St} {w : World} (h : HR P R μ s w) (hl : ∀ b p, μ b = some p → b < s.next ∨ R' ≤ b) : HR P R' μ s w :=
  ⟨h.obj, h.inj, fun b p hb => ⟨(h.lt b p hb).1, hl b p hb⟩, h.dom⟩

structure Ctx (P : Program) (e : Eng) (ops : Array Oper) (ps : List PO) (TS : Nat → Tr AV) (SS : Nat → St) (N : Nat) : Prop where
  len : ps.length = ops.size
  op : ∀ {i : Nat} {p : PO}, ps[i]? = some p → ∃ o, ops.toList[i]? = some o ∧ prepPO P ops.toList o = some p
  step : ∀ {i : Nat} {p : PO}, ps[i]? = some p → opStep e p (TS i) (SS i) = some (TS (i + 1), SS (i + 1))
  edge : edgesOk ops.toList = true
  lt : ∀ {i : Nat} {p : PO} {t : Nat}, ps[i]? = some p → p.dst = some t → t < N
  dst : ∀ {i j : Nat} {p q : PO} {t : Nat}, ps[i]? = some p → ps[j]? = some q → p.dst = some t → q.dst = some t → i = j
  tmp : ∀ {i : Nat} {p : PO} {t : Nat}, ps[i]? = some p → (t ∈ p.op.uses ∨ ∃ k, p.guard = some (t, k)) → ∀ {j : Nat} {q : PO}, ps[j]? = some q → q.dst = some t → i = j ∨ ahead (befores ops.toList) i j = true ∨ ahead (befores ops.toList) j i = true
  big : ∀ {i j : Nat} {p q : PO}, ps[i]? = some p → ps[j]? = some q → p.big = true → q.big = true → i < j → ahead (befores ops.toList) i j = true ∨ q.op.cls = 3
  pre : ∀ {i : Nat} {p : PO}, ps[i]? = some p → p.op.cls = 1 → ∀ {j : Nat} {q : PO}, ps[j]? = some q → q.big = true → ahead (befores ops.toList) j i = true → ∀ {c : Nat} {r : PO}, ps[c]? = some r → r.big = true → c < j → ahead (befores ops.toList) c i = true
  look : ∀ {i : Nat} {p : PO}, ps[i]? = some p → p.op.cls = 1 → settled ps (befores ops.toList) i = false → ∀ {v : AV}, wantedA p.guard (TS i) = some true → opVal e p.op (evOf (TS i)) (SS i) = some (v, SS (i + 1)) →
    ∀ c ∈ spots ps (befores ops.toList) i, xop p.op (evOf (TS i)) (SS c) = some (v, SS c)

def Ls (listed : Array Bool) (i : Nat) : Prop := listed.getD i true = true

theorem Ls_set {listed : Array Bool} {i j : Nat} : Ls (listed.setIfInBounds i true) j ↔ j = i ∨ Ls listed j := by
  unfold Ls
  rw [Array.getD_eq_getD_getElem?, Array.getD_eq_getD_getElem?, Array.getElem?_setIfInBounds]
  by_cases e : i = j
  · subst e
    by_cases hl : i < listed.size <;> simp [hl]
  · rw [if_neg e]
    simp [Ne.symm e]

section
variable {e : Eng} {ops : Array Oper} {ps : List PO} {TS : Nat → Tr AV} {SS : Nat → St} {N : Nat}

theorem Ctx.calm (C : Ctx P e ops ps TS SS N) {i : Nat} {p : PO} (hp : ps[i]? = some p) (hb : p.big = false) : SS (i + 1) = SS i := by
  obtain ⟨v, _, ⟨_, _, h⟩ | ⟨_, h⟩⟩ := opStep_spec (C.step hp)
  · exact h
  · have hc : p.op.cls = 0 ∨ p.op.cls = 1 := by
      unfold PO.big at hb
      have : ¬ 2 ≤ p.op.cls := by intro h; rw [Nat.ble_eq_true_of_le h] at hb; cases hb
      omega
    rw [opVal_xop (by omega)] at h
    rcases hc with hc | hc
    · exact (xop_calm hc h).1
    · exact xop_look hc h

theorem Ctx.S_keep (C : Ctx P e ops ps TS SS N) {i : Nat} : ∀ {j : Nat}, i ≤ j → j ≤ ps.length → (∀ k p, i ≤ k → k < j → ps[k]? = some p → p.big = false) → SS j = SS i := by
  intro j
  induction j with
  | zero => intro h _ _; have : i = 0 := by omega
            subst this; rfl
  | succ j ih =>
    intro h hl hk
    by_cases e' : i = j + 1
    · subst e'; rfl
    · have hj : j < ps.length := by omega
      rw [C.calm (List.getElem?_eq_getElem hj) (hk j _ (by omega) (by omega) (List.getElem?_eq_getElem hj)), ih (by omega) (by omega) (fun k p h1 h2 => hk k p h1 (by omega))]

theorem Ctx.T_keep (C : Ctx P e ops ps TS SS N) {i t : Nat} : ∀ {j : Nat}, i ≤ j → j ≤ ps.length → (∀ k p, i ≤ k → k < j → ps[k]? = some p → p.dst ≠ some t) → (TS j).get t = (TS i).get t := by
  intro j
  induction j with
  | zero => intro h _ _; have : i = 0 := by omega
            subst this; rfl
  | succ j ih =>
    intro h hl hk
    by_cases e' : i = j + 1
    · subst e'; rfl
    · have hj : j < ps.length := by omega
      have hp := List.getElem?_eq_getElem hj
      obtain ⟨v, hv, _⟩ := opStep_spec (C.step hp)
      rw [← ih (by omega) (by omega) (fun k p h1 h2 => hk k p h1 (by omega)), hv]
      have hne := hk j _ (by omega) (by omega) hp
      cases hd : ps[j].dst with
      | none => rfl
      | some u =>
        rw [hd] at hne
        simp only [putT, Tr.get_set]
        rw [if_neg]
        intro e'; subst e'; exact hne rfl

theorem Ctx.S_mono (hE : EngOk P e) (C : Ctx P e ops ps TS SS N) {i : Nat} : ∀ {j : Nat}, i ≤ j → j ≤ ps.length → (SS i).next ≤ (SS j).next := by
  intro j
  induction j with
  | zero => intro h _; have : i = 0 := by omega
            subst this; exact Nat.le_refl _
  | succ j ih =>
    intro h hl
    by_cases e' : i = j + 1
    · subst e'; exact Nat.le_refl _
    · have hj : j < ps.length := by omega
      exact Nat.le_trans (ih (by omega) (by omega)) (opStep_next hE.next (C.step (List.getElem?_eq_getElem hj)))

variable (ops ps TS SS N)
structure Inv (P : Program) (R0 : Nat) (ds : List Nat) (μ0 : Place) (w0 : World) (listed : Array Bool) (a : Act) (w : World) (μ : Place) (c : Nat) : Prop where
  size : listed.size = ps.length
  clo : ∀ i o, Ls listed i → ops.toList[i]? = some o → ∀ e ∈ o.after.toList, Region.binds .any e = true → Ls listed e.on
  c_le : c ≤ ps.length
  below : ∀ i p, i < c → ps[i]? = some p → p.big = true → Ls listed i
  hr : HR P 0 μ (SS c) w
  lt : ∀ b p, μ b = some p → b < (SS c).next ∨ (∃ j, c ≤ j ∧ j < ps.length ∧ Ls listed j ∧ (SS j).next < (SS (j + 1)).next ∧ b = (SS j).next) ∨ R0 ≤ b
  pend : ∀ j p, c ≤ j → ps[j]? = some p → p.big = true → Ls listed j → SS (j + 1) = SS j ∨
    ∃ o q, SS (j + 1) = (SS j).new o ∧ μ (SS j).next = some q ∧ OR P μ w q.1 q.2 o ∧ q.1 < w.heap.size ∧ ∀ b p, μ b = some p → p.1 = q.1 → b = (SS j).next
  tm1 : ∀ i p t v, ps[i]? = some p → p.dst = some t → Ls listed i → (TS (i + 1)).get t = some v → ∃ x, a.tmps[t]? = some x ∧ conc μ v = some x
  tm2 : ∀ t v, (∀ i p, ps[i]? = some p → p.dst = some t → ¬ Ls listed i) → (TS 0).get t = some v → ∃ x, a.tmps[t]? = some x ∧ conc μ v = some x
  tsz : a.tmps.size = N
  dfr : DR μ ds a.defers
  mv : Mv μ0 (SS 0) w0 μ { SS c with next := (SS ps.length).next } w
variable {ops ps TS SS N}

variable {R0 : Nat} {ds : List Nat} {μ0 : Place} {w0 : World} {listed : Array Bool} {a : Act} {w : World} {μ : Place} {c : Nat}

/-- What comes before what is listed is listed. -/
theorem Inv.before (C : Ctx P e ops ps TS SS N) (I : Inv ops ps TS SS N P R0 ds μ0 w0 listed a w μ c) {i j : Nat} {p : PO} (hp : ps[i]? = some p) (hi : Ls listed i) (h : ahead (befores ops.toList) j i = true) : Ls listed j := by
  obtain ⟨o, ho, _⟩ := C.op hp
  exact ahead_closed C.edge (S := Ls listed) I.clo i o ho (fun e he hb => I.clo i o hi ho e he hb) h

/-- The next one in the order that is written: it is no great one, or it is done. -/
theorem Inv.next (C : Ctx P e ops ps TS SS N) (hs0 : ∀ b o, (SS 0).get b = some o → b < (SS 0).next) (hm : (SS 0).next ≤ (SS c).next) (I : Inv ops ps TS SS N P R0 ds μ0 w0 listed a w μ c) {p : PO} (hp : ps[c]? = some p) (hb : p.big = true → Ls listed c) : Inv ops ps TS SS N P R0 ds μ0 w0 listed a w μ (c + 1) := by
  have hcl : c < ps.length := (List.getElem?_eq_some_iff.1 hp).1
  have below : ∀ i p, i < c + 1 → ps[i]? = some p → p.big = true → Ls listed i := by
    intro i q hi hq hqb
    by_cases e' : i = c
    · subst e'; rw [hp] at hq; cases hq; exact hb hqb
    · exact I.below i q (by omega) hq hqb
  have same : SS (c + 1) = SS c → Inv ops ps TS SS N P R0 ds μ0 w0 listed a w μ (c + 1) := by
    intro hs
    refine ⟨I.size, I.clo, by omega, below, by rw [hs]; exact I.hr, ?_, fun j q h1 => I.pend j q (by omega), I.tm1, I.tm2, I.tsz, I.dfr, by rw [hs]; exact I.mv⟩
    intro b q hbq
    rcases I.lt b q hbq with h | ⟨j, h1, h2, h3, h4, h5⟩ | h
    · exact .inl (by rw [hs]; exact h)
    · refine .inr (.inl ⟨j, ?_, h2, h3, h4, h5⟩)
      rcases Nat.lt_or_ge c j with h | h
      · exact h
      · have : j = c := by omega
        subst this
        rw [hs] at h4
        omega
    · exact .inr (.inr h)
  by_cases hbig : p.big = true
  · rcases I.pend c p (Nat.le_refl _) hp hbig (hb hbig) with hs | ⟨o, q, hs, hq, ho, hlt, hu⟩
    · exact same hs
    · have hn : (SS (c + 1)).next = (SS c).next + 1 := by rw [hs]; rfl
      refine ⟨I.size, I.clo, by omega, below, ?_, ?_, fun j q h1 => I.pend j q (by omega), I.tm1, I.tm2, I.tsz, I.dfr, ?_⟩
      · rw [hs]
        refine I.hr.take (Place.le_refl _) (fun _ _ => rfl) hq hlt ?_ (Nat.le_refl _) (fun _ _ _ _ _ => rfl) o ho
        intro b x r hb' hr' e'
        have := hu b r hr' e'
        have := I.hr.dom b x hb'
        omega
      · intro b r hbr
        rcases I.lt b r hbr with h | ⟨j, h1, h2, h3, h4, h5⟩ | h
        · exact .inl (by omega)
        · rcases Nat.lt_or_ge c j with h | h
          · exact .inr (.inl ⟨j, h, h2, h3, h4, h5⟩)
          · have : j = c := by omega
            subst this
            exact .inl (by omega)
        · exact .inr (.inr h)
      · have m := I.mv
        refine ⟨m.le, m.os, m.output, m.tape, m.size, m.next, m.res, m.fresh, m.frame, ?_⟩
        intro b vs l z r hg hr'
        obtain ⟨g1, g2⟩ := m.ro b vs l z r hg hr'
        refine ⟨?_, g2⟩
        have g1' : (SS c).get b = some (.cells vs l true z) := g1
        show (SS (c + 1)).get b = _
        rw [hs, St.get_new, if_neg]
        · exact g1'
        · have := hs0 b _ hg
          omega
  · exact same (C.calm hp (by simpa using hbig))

/-- On to the first great one that is not done. -/
theorem Inv.advance (hE : EngOk P e) (C : Ctx P e ops ps TS SS N) (hs0 : ∀ b o, (SS 0).get b = some o → b < (SS 0).next) : ∀ (k : Nat) {c : Nat}, ps.length - c = k → Inv ops ps TS SS N P R0 ds μ0 w0 listed a w μ c →
    ∃ c', Inv ops ps TS SS N P R0 ds μ0 w0 listed a w μ c' ∧ (c' = ps.length ∨ ∃ p, ps[c']? = some p ∧ p.big = true ∧ ¬ Ls listed c') := by
  intro k
  induction k with
  | zero => intro c hk I; exact ⟨c, I, .inl (by have := I.c_le; omega)⟩
  | succ k ih =>
    intro c hk I
    have hc : c < ps.length := by omega
    have hp := List.getElem?_eq_getElem hc
    by_cases hb : ps[c].big = true ∧ ¬ Ls listed c
    · exact ⟨c, I, .inr ⟨_, hp, hb⟩⟩
    · refine ih (by omega) (I.next C hs0 (C.S_mono hE (Nat.zero_le _) (by omega)) hp ?_)
      intro h
      exact Classical.byContradiction fun hn => hb ⟨h, hn⟩
end
end Go.Proofs.Ytjejgnbdlfkenaa.D
namespace Go.Proofs.Ytjejgnbdlfkenaa.D
variable {P : Program}

theorem evR_part {μ : Place} {G : Nat → Option AV} {a : Act} (hg : ∀ t v, G t = some v → ∃ c, a.tmps[t]? = some c ∧ conc μ v = some c) : EvR μ (fun x => match x with | .t t => G t | .c v => some v) a.eval := by
  intro y x v hy hv
  cases y with
  | tmp t =>
    simp only [prepX, Option.some.injEq] at hy
    subst hy
    obtain ⟨c, h1, h2⟩ := hg t v hv
    rw [h2]
    simp [Act.eval, h1]
  | const u =>
    simp only [prepX, Option.map_eq_some_iff] at hy
    obtain ⟨b, hb, rfl⟩ := hy
    simp only [Option.some.injEq] at hv
    subst hv
    exact absV_conc hb μ
  | func f =>
    simp only [prepX, Option.some.injEq] at hy
    subst hy
    simp only [Option.some.injEq] at hv
    subst hv
    simp [conc, Fn.plain, concs, Act.eval]
  | global g => cases hy

/-- The operands of an operation alone. -/
noncomputable def evPart (p : POp) (ts : Tr AV) : Ev := fun x => match x with
  | .t t => if t ∈ p.uses then ts.get t else none
  | .c v => some v

theorem evPart_eq {p : POp} {ts : Tr AV} : ∀ x ∈ p.xs, evOf ts x = evPart p ts x := by
  intro x hx
  cases x with
  | c v => rfl
  | t t =>
    have : t ∈ p.uses := List.mem_flatMap.2 ⟨.t t, hx, by simp [xuse]⟩
    simp [evPart, evOf, this]

section
variable {e : Eng} {ops : Array Oper} {ps : List PO} {TS : Nat → Tr AV} {SS : Nat → St} {N : Nat}
variable {R0 : Nat} {ds : List Nat} {μ0 : Place} {w0 : World} {listed : Array Bool} {a : Act} {w : World} {μ : Place} {c : Nat}

theorem Inv.upd (C : Ctx P e ops ps TS SS N) (I : Inv ops ps TS SS N P R0 ds μ0 w0 listed a w μ c) {i : Nat} {p : PO} {o : Oper} (hp : ps[i]? = some p) (ho : ops.toList[i]? = some o) (hn : ¬ Ls listed i)
    (hrdy : ∀ e ∈ o.after.toList, Region.binds .any e = true → Ls listed e.on) {ν : Place} {x : Value} {w' : World} {c' : Nat} (hle : μ.le ν) (hx : ∀ v t, p.dst = some t → (TS (i + 1)).get t = some v → conc ν v = some x) (hc : c' ≤ ps.length)
    (hbelow : ∀ j q, j < c' → ps[j]? = some q → q.big = true → j = i ∨ Ls listed j) (hr : HR P 0 ν (SS c') w')
    (hlt : ∀ b p, ν b = some p → b < (SS c').next ∨ (∃ j, c' ≤ j ∧ j < ps.length ∧ (j = i ∨ Ls listed j) ∧ (SS j).next < (SS (j + 1)).next ∧ b = (SS j).next) ∨ R0 ≤ b)
    (hpend : ∀ j p, c' ≤ j → ps[j]? = some p → p.big = true → (j = i ∨ Ls listed j) → SS (j + 1) = SS j ∨
      ∃ o q, SS (j + 1) = (SS j).new o ∧ ν (SS j).next = some q ∧ OR P ν w' q.1 q.2 o ∧ q.1 < w'.heap.size ∧ ∀ b p, ν b = some p → p.1 = q.1 → b = (SS j).next)
    (hmv : Mv μ0 (SS 0) w0 ν { SS c' with next := (SS ps.length).next } w') : Inv ops ps TS SS N P R0 ds μ0 w0 (listed.setIfInBounds i true) (a.put p.dst x) w' ν c' := by
  refine ⟨by simpa using I.size, ?_, hc, fun j q h1 h2 h3 => Ls_set.2 (hbelow j q h1 h2 h3), hr, ?_, ?_, ?_, ?_, by rw [put_size]; exact I.tsz, by rw [put_defers]; exact I.dfr.mono hle, hmv⟩
  · intro j o' hj ho' e' he hb
    rw [Ls_set] at hj ⊢
    rcases hj with rfl | hj
    · rw [ho] at ho'; cases ho'
      exact .inr (hrdy e' he hb)
    · exact .inr (I.clo j o' hj ho' e' he hb)
  · intro b q hq
    rcases hlt b q hq with h | ⟨j, h1, h2, h3, h4, h5⟩ | h
    · exact .inl h
    · exact .inr (.inl ⟨j, h1, h2, Ls_set.2 h3, h4, h5⟩)
    · exact .inr (.inr h)
  · intro j q h1 h2 h3 h4
    exact hpend j q h1 h2 h3 (Ls_set.1 h4)
  · intro j q t v hq hd hl hv
    rw [Ls_set] at hl
    by_cases hji : j = i
    · subst hji
      rw [hp] at hq; cases hq
      have ht := C.lt hp hd
      refine ⟨x, ?_, hx v t hd hv⟩
      rw [hd]
      simp only [Act.put]
      simp [I.tsz, ht]
    · obtain ⟨y, h1, h2⟩ := I.tm1 j q t v hq hd (hl.resolve_left hji) hv
      refine ⟨y, ?_, conc_mono hle _ _ h2⟩
      cases hpd : p.dst with
      | none => exact h1
      | some u =>
        simp only [Act.put]
        rw [Array.getElem?_setIfInBounds_ne]
        · exact h1
        · intro e'; subst e'
          exact hji (C.dst hq hp hd hpd)
  · intro t v hw hv
    obtain ⟨y, h1, h2⟩ := I.tm2 t v (fun j q hq hd hl => hw j q hq hd (Ls_set.2 (.inr hl))) hv
    refine ⟨y, ?_, conc_mono hle _ _ h2⟩
    cases hpd : p.dst with
    | none => exact h1
    | some u =>
      simp only [Act.put]
      rw [Array.getElem?_setIfInBounds_ne]
      · exact h1
      · intro e'; subst e'
        exact hw i p hp hpd (Ls_set.2 (.inl rfl))

/-- The operands, and the test, are what the run in the written order finds. -/
theorem Inv.good (C : Ctx P e ops ps TS SS N) (I : Inv ops ps TS SS N P R0 ds μ0 w0 listed a w μ c) {i : Nat} {p : PO} {o : Oper} (hp : ps[i]? = some p) (ho : ops.toList[i]? = some o) (hn : ¬ Ls listed i)
    (hrdy : ∀ e ∈ o.after.toList, Region.binds .any e = true → Ls listed e.on) {t : Nat} (ht : t ∈ p.op.uses ∨ ∃ k, p.guard = some (t, k)) {v : AV} (hv : (TS i).get t = some v) : ∃ x, a.tmps[t]? = some x ∧ conc μ v = some x := by
  have hil : i < ps.length := (List.getElem?_eq_some_iff.1 hp).1
  by_cases hw : ∃ j q, ps[j]? = some q ∧ q.dst = some t ∧ Ls listed j
  · obtain ⟨j, q, hq, hd, hl⟩ := hw
    have hji : i ≠ j := fun e' => hn (e' ▸ hl)
    rcases C.tmp hp ht hq hd with h | h | h
    · exact absurd h hji
    · exact absurd (I.before C hq hl h) hn
    · have hlt := ahead_lt C.edge _ h
      refine I.tm1 j q t v hq hd hl ?_
      rw [← hv]
      exact (C.T_keep (by omega) (by omega) fun k r h1 h2 hr hdr => by
        have := C.dst hr hq hdr hd
        omega).symm
  · refine I.tm2 t v (fun j q hq hd hl => hw ⟨j, q, hq, hd, hl⟩) ?_
    rw [← hv]
    refine (C.T_keep (Nat.zero_le _) (by omega) fun k r _ h2 hr hdr => ?_).symm
    rcases C.tmp hp ht hr hdr with h | h | h
    · omega
    · have := ahead_lt C.edge _ h; omega
    · exact hw ⟨k, r, hr, hdr, ahead_closed C.edge (S := Ls listed) I.clo i o ho hrdy h⟩

/-- What an operation that turns nothing gives at this moment is what it gives in the written order. -/
theorem Inv.calm (C : Ctx P e ops ps TS SS N) (I : Inv ops ps TS SS N P R0 ds μ0 w0 listed a w μ c) (hc : c = ps.length ∨ ∃ p, ps[c]? = some p ∧ p.big = true ∧ ¬ Ls listed c) {i : Nat} {p : PO} {o : Oper} (hp : ps[i]? = some p) (ho : ops.toList[i]? = some o) (hn : ¬ Ls listed i)
    (hrdy : ∀ e ∈ o.after.toList, Region.binds .any e = true → Ls listed e.on) (hb : p.big = false) {v : AV} (hw : wantedA p.guard (TS i) = some true) (hv : opVal e p.op (evOf (TS i)) (SS i) = some (v, SS (i + 1))) : xop p.op (evOf (TS i)) (SS c) = some (v, SS c) := by
  have hil : i < ps.length := (List.getElem?_eq_some_iff.1 hp).1
  have hcl : p.op.cls = 0 ∨ p.op.cls = 1 := by
    unfold PO.big at hb
    have : ¬ 2 ≤ p.op.cls := by intro h; rw [Nat.ble_eq_true_of_le h] at hb; cases hb
    omega
  have hx := hv
  rw [opVal_xop (by omega)] at hx
  rcases hcl with hcl | hcl
  · exact (xop_calm hcl hx).2 _
  · have rdy : ∀ j, ahead (befores ops.toList) j i = true → Ls listed j := fun j h => ahead_closed C.edge (S := Ls listed) I.clo i o ho hrdy h
    have lo : ∀ j q, ps[j]? = some q → q.big = true → ahead (befores ops.toList) j i = true → j < c := by
      intro j q hq hqb h
      have hjl : j < ps.length := (List.getElem?_eq_some_iff.1 hq).1
      rcases hc with hc | ⟨r, hr, hrb, hrl⟩
      · omega
      · have hjc : j ≠ c := fun e' => hrl (e' ▸ rdy j h)
        rcases Nat.lt_or_ge j c with h' | h'
        · exact h'
        · exact absurd (rdy c (C.pre hp hcl hq hqb h hr hrb (by omega))) hrl
    have hi : ∀ j q, ps[j]? = some q → q.big = true → ahead (befores ops.toList) i j = true → c ≤ j := by
      intro j q hq hqb h
      rcases Nat.lt_or_ge j c with h' | h'
      · exact absurd (I.before C hq (I.below j q h' hq hqb) h) hn
      · exact h'
    cases hset : settled ps (befores ops.toList) i with
    | false =>
      refine C.look hp hcl hset hw hv c ?_
      unfold spots
      simp only [List.mem_filter, List.mem_range, Bool.and_eq_true]
      refine ⟨by have := I.c_le; omega, ?_, ?_⟩
      · rcases hc with hc | ⟨r, hr, hrb, _⟩
        · rw [List.getElem?_eq_none (by omega)]
        · rw [hr]; exact hrb
      · rw [all_zipIdx]
        intro j q hq
        cases hqb : q.big with
        | false => rfl
        | true =>
          simp only [Bool.not_true, Bool.false_or, Bool.and_eq_true, Bool.or_eq_true, Bool.not_eq_true']
          constructor
          · cases h : ahead (befores ops.toList) j i with
            | false => exact .inl rfl
            | true => exact .inr (by rw [Nat.blt_eq]; exact lo j q hq hqb h)
          · cases h : ahead (befores ops.toList) i j with
            | false => exact .inl rfl
            | true => exact .inr (Nat.ble_eq_true_of_le (hi j q hq hqb h))
    | true =>
      have hse : ∀ j q, ps[j]? = some q → q.big = true → ahead (befores ops.toList) j i = true ∨ ahead (befores ops.toList) i j = true := by
        intro j q hq hqb
        have := all_zipIdx.1 hset j q hq
        simp only [hqb, Bool.not_true, Bool.false_or, Bool.or_eq_true] at this
        exact this
      have hs : SS c = SS i := by
        rcases Nat.lt_or_ge i c with h | h
        · refine C.S_keep (by omega) I.c_le fun k q h1 h2 hq => ?_
          cases hqb : q.big with
          | false => rfl
          | true =>
            exfalso
            rcases hse k q hq hqb with h' | h'
            · have := ahead_lt C.edge _ h'; omega
            · have := hi k q hq hqb h'; omega
        · refine (C.S_keep h (by omega) fun k q h1 h2 hq => ?_).symm
          cases hqb : q.big with
          | false => rfl
          | true =>
            exfalso
            rcases hse k q hq hqb with h' | h'
            · have := lo k q hq hqb h'; omega
            · have := ahead_lt C.edge _ h'; omega
      rw [hs]
      have := xop_look hcl hx
      rw [this] at hx
      exact hx

theorem Inv.step (hE : EngOk P e) (C : Ctx P e ops ps TS SS N) (hR0 : (SS ps.length).next ≤ R0) {ro : Option Nat} {F : Fence} (hF : FenceOk μ0 ro F) {n : Nat} {Q : Exit → Act → World → Prop}
    (I : Inv ops ps TS SS N P R0 ds μ0 w0 listed a w μ c) (hc : c = ps.length ∨ ∃ p, ps[c]? = some p ∧ p.big = true ∧ ¬ Ls listed c)
    {i : Nat} {p : PO} {o : Oper} (hp : ps[i]? = some p) (ho : ops.toList[i]? = some o) (hpo : prepPO P ops.toList o = some p) (hn : ¬ Ls listed i)
    (hrdy : ∀ e ∈ o.after.toList, Region.binds .any e = true → Ls listed e.on) {K : Act → World → Prop}
    (hK : ∀ a' w' μ' c', Inv ops ps TS SS N P R0 ds μ0 w0 (listed.setIfInBounds i true) a' w' μ' c' → K a' w') : wpOpIn F n P ops Q i K a w := by
  have hil : i < ps.length := (List.getElem?_eq_some_iff.1 hp).1
  have hF' : FenceOk μ ro F := hF.mono I.mv.le
  have hops : ops = ops.toList.toArray := by simp
  have hoa : ops[i]? = some o := by rw [← Array.getElem?_toList]; exact ho
  obtain ⟨e1, e2⟩ := prepPO_op hpo
  obtain ⟨v, hts, hcase⟩ := opStep_spec (C.step hp)
  have hget : ∀ u t, p.dst = some t → (TS (i + 1)).get t = some u → u = v := by
    intro u t hd hu
    rw [hts, hd] at hu
    simp only [putT, Tr.get_set, if_true, Option.some.injEq] at hu
    exact hu.symm
  have hwant : ∀ b, wantedA p.guard (TS i) = some b → Region.wanted o (yielded ops a.tmps) = b := by
    intro b hb
    have := wanted_of hpo hb (μ := μ) (tmps := a.tmps) (fun t k hg u hu => I.good C hp ho hn hrdy (.inr ⟨k, hg⟩) hu)
    rwa [← hops] at this
  have hmc : (SS 0).next ≤ (SS c).next := C.S_mono hE (Nat.zero_le _) I.c_le
  unfold wpOpIn
  simp only [hoa]
  rcases hcase with ⟨hw, hvu, hs⟩ | ⟨hw, hv⟩
  · -- not carried out
    rw [hwant _ hw]
    simp only [Bool.false_eq_true, if_false]
    refine ⟨fun f _ => hF'.fn f, ?_⟩
    rw [← e2]
    refine hK _ w μ c (I.upd C hp ho hn hrdy (Place.le_refl _) (fun u t hd hu => ?_) I.c_le (fun j q h1 h2 h3 => .inr (I.below j q h1 h2 h3)) I.hr ?_ ?_ I.mv)
    · rw [hget u t hd hu, hvu]; exact conc_undef μ
    · intro b q hq
      rcases I.lt b q hq with h | ⟨j, h1, h2, h3, h4, h5⟩ | h
      · exact .inl h
      · exact .inr (.inl ⟨j, h1, h2, .inr h3, h4, h5⟩)
      · exact .inr (.inr h)
    · intro j q h1 h2 h3 h4
      rcases h4 with rfl | h4
      · exact .inl hs
      · exact I.pend j q h1 h2 h3 h4
  · rw [hwant _ hw]
    simp only [if_true]
    have hρ : EvR μ (evPart p.op (TS i)) a.eval := evR_part (G := fun t => if t ∈ p.op.uses then (TS i).get t else none) (fun t u hu => by
      split at hu
      · exact I.good C hp ho hn hrdy (.inl (by assumption)) hu
      · cases hu)
    have hv' : opVal e p.op (evPart p.op (TS i)) (SS i) = some (v, SS (i + 1)) := by rw [← opVal_congr evPart_eq]; exact hv
    by_cases hb : p.big = true
    · by_cases hic : i = c
      · -- the great one whose turn it is
        subst hic
        have hn1 : (SS i).next ≤ (SS (i + 1)).next := C.S_mono hE (Nat.le_succ i) (by omega)
        have hn2 := C.S_mono hE (i := i + 1) (j := ps.length) (by omega) (Nat.le_refl _)
        have hpj : ∀ j, i ≤ j → Ls listed j → i + 1 ≤ j := by
          intro j h1 h2
          have : j ≠ i := fun e' => hn (e' ▸ h2)
          omega
        have hR : HR P (SS (i + 1)).next μ (SS i) w := I.hr.at_R (by
          intro b q hq
          rcases I.lt b q hq with h | ⟨j, h1, h2, h3, h4, h5⟩ | h
          · exact .inl h
          · have := C.S_mono hE (hpj j h1 h3) (by omega)
            exact .inr (by omega)
          · exact .inr (by omega))
        refine opVal_wpIn hE e1 hv' (Nat.le_refl _) hR hρ hF' ?_ n
        intro ν x w1 h1 h2 h3
        rw [← e2]
        refine hK _ w1 ν (i + 1) (I.upd C hp ho hn hrdy h3.le (fun u t hd hu => by rw [hget u t hd hu]; exact h1) (by omega) ?_ (h2.at_R fun b q _ => .inr (Nat.zero_le _)) ?_ ?_ (I.mv.through hmc h3 hn2))
        · intro j q g1 g2 g3
          rcases Nat.lt_or_ge j i with h | h
          · exact .inr (I.below j q h g2 g3)
          · exact .inl (by omega)
        · intro b q hq
          rcases h3.fresh b q hq with h | ⟨g1, g2, _⟩
          · rcases I.lt b q h with h | ⟨j, k1, k2, k3, k4, k5⟩ | h
            · exact .inl (by omega)
            · exact .inr (.inl ⟨j, hpj j k1 k3, k2, .inr k3, k4, k5⟩)
            · exact .inr (.inr h)
          · exact .inl g2
        · intro j q g1 g2 g3 g4
          have hjl : j < ps.length := (List.getElem?_eq_some_iff.1 g2).1
          have hji : j ≠ i := by omega
          have hjm := C.S_mono hE (i := i + 1) (j := j) g1 (by omega)
          have g4' := g4.resolve_left hji
          rcases I.pend j q (by omega) g2 g3 g4' with h | ⟨ob, r, k1, k2, k3, k4, k5⟩
          · exact .inl h
          · refine .inr ⟨ob, r, k1, h3.le _ _ k2, k3.mono h3.le ?_, Nat.lt_of_lt_of_le k4 h3.size, ?_⟩
            · refine h3.frame r.1 k4 fun b r' hb1 hb2 e' => ?_
              have := k5 b r' hb2 e'
              omega
            · intro b r' hb1 e'
              rcases h3.fresh b r' hb1 with h | ⟨g5, g6, h | ⟨d, r2, hd1, hd2, hd3⟩⟩
              · exact k5 b r' h e'
              · omega
              · have := k5 d r2 hd2 (hd3.trans e')
                omega
      · -- a block that is laid early
        have hci : c < i := by
          rcases Nat.lt_or_ge i c with h | h
          · exact absurd (I.below i p h hp hb) hn
          · omega
        have hcls : p.op.cls = 3 := by
          rcases hc with hc | ⟨r, hr, hrb, hrl⟩
          · omega
          · rcases C.big hr hp hrb hb hci with h | h
            · exact absurd (ahead_closed C.edge (S := Ls listed) I.clo i o ho hrdy h) hrl
            · exact h
        have hx := hv'
        rw [opVal_xop (by omega)] at hx
        cases hpr : prepOp P o with
        | none => rw [hpr] at e1; rw [← e1] at hcls; cases hcls
        | some q0 =>
          rw [hpr] at e1
          simp only [Option.getD_some] at e1
          subst e1
          obtain ⟨vs, f, hvf, hsn, hrun⟩ := late_run hpr hcls hx
          obtain ⟨cs, el, fz, cv, r1, r2, r3, r4⟩ := hrun hρ (w := w)
          have hnx : (SS (i + 1)).next = (SS i).next + 1 := by rw [hsn]; rfl
          have hci2 : (SS c).next ≤ (SS i).next := C.S_mono hE (by omega) (by omega)
          have hil2 := C.S_mono hE (i := i + 1) (j := ps.length) (by omega) (Nat.le_refl _)
          have hjd : ∀ j, c ≤ j → j < ps.length → Ls listed j → (SS j).next < (SS (j + 1)).next → (SS j).next ≠ (SS i).next := by
            intro j h1 h2 h3 h4 e'
            have hji : j ≠ i := fun e2 => hn (e2 ▸ h3)
            rcases Nat.lt_or_ge j i with h | h
            · have := C.S_mono hE (i := j + 1) (j := i) (by omega) (by omega); omega
            · have := C.S_mono hE (i := i + 1) (j := j) (by omega) (by omega); omega
          have hfr : μ (SS i).next = none := by
            cases hμ : μ (SS i).next with
            | none => rfl
            | some r =>
              exfalso
              rcases I.lt _ _ hμ with h | ⟨j, h1, h2, h3, h4, h5⟩ | h
              · omega
              · exact hjd j h1 h2 h3 h4 h5.symm
              · omega
          have hle : μ.le (μ.add (SS i).next (w.heap.size, 0)) := by
            intro b q hq
            unfold Place.add
            rw [if_neg]
            · exact hq
            · intro e'; subst e'; rw [hfr] at hq; cases hq
          have hold : ∀ b q, μ b = some q → ({ w with heap := w.heap.push (.cells cs el fz), drawn := w.drawn } : World).heap[q.1]? = w.heap[q.1]? := fun b q hq => World.push_old w _ q.1 (I.hr.lt b q hq).1 w.drawn
          have hnew : (μ.add (SS i).next (w.heap.size, 0)) (SS i).next = some (w.heap.size, 0) := by simp [Place.add]
          have hback : ∀ b q, (μ.add (SS i).next (w.heap.size, 0)) b = some q → (b = (SS i).next ∧ q = (w.heap.size, 0)) ∨ μ b = some q := by
            intro b q hq
            unfold Place.add at hq
            by_cases eb : b = (SS i).next
            · rw [if_pos eb] at hq; cases hq; exact .inl ⟨eb, rfl⟩
            · rw [if_neg eb] at hq; exact .inr hq
          refine ⟨fun f _ => hF'.fn f, ?_⟩
          rw [Oper.semAt_eq _ _ _ (prepOp_defer hpr), r1, Oper.uponIn_value, ← e2]
          refine hK _ _ (μ.add (SS i).next (w.heap.size, 0)) c (I.upd C hp ho hn hrdy hle (fun u t hd hu => ?_) I.c_le (fun j q h1 h2 h3 => .inr (I.below j q h1 h2 h3)) ?_ ?_ ?_ ?_)
          · rw [hget u t hd hu, hvf]; exact r4 _ _ hnew
          · refine ⟨?_, ?_, ?_, I.hr.dom⟩
            · intro b x hbx
              obtain ⟨q, hq, hx'⟩ := I.hr.obj b x hbx
              exact ⟨q, hle _ _ hq, hx'.mono hle (hold b q hq)⟩
            · intro b d x y q r hb1 hd1 hq hr' e'
              have hb2 := I.hr.dom b x hb1
              have hd2 := I.hr.dom d y hd1
              have hq' := (hback b q hq).resolve_left (by omega)
              have hr2 := (hback d r hr').resolve_left (by omega)
              exact I.hr.inj b d x y q r hb1 hd1 hq' hr2 e'
            · intro b q hq
              refine ⟨?_, .inr (Nat.zero_le _)⟩
              rcases hback b q hq with ⟨_, rfl⟩ | h
              · simp
              · have := (I.hr.lt b q h).1
                simp; omega
          · intro b q hq
            rcases hback b q hq with ⟨h, _⟩ | h
            · exact .inr (.inl ⟨i, by omega, hil, .inl rfl, by omega, h⟩)
            · rcases I.lt b q h with h | ⟨j, h1, h2, h3, h4, h5⟩ | h
              · exact .inl h
              · exact .inr (.inl ⟨j, h1, h2, .inr h3, h4, h5⟩)
              · exact .inr (.inr h)
          · intro j q h1 h2 h3 h4
            by_cases hji : j = i
            · subst hji
              refine .inr ⟨_, (w.heap.size, 0), hsn, hnew, ⟨cs, el, fz, cs.toList, [], World.push_new w _ _, concs_mono hle _ _ r2, by simp, by simp, fun _ => rfl, fun _ => r3⟩, by simp, ?_⟩
              intro b r hb1 e'
              rcases hback b r hb1 with ⟨h, _⟩ | h
              · exact h
              · have := (I.hr.lt b r h).1
                simp at e'
                omega
            · rcases I.pend j q h1 h2 h3 (h4.resolve_left hji) with h | ⟨ob, r, k1, k2, k3, k4, k5⟩
              · exact .inl h
              · refine .inr ⟨ob, r, k1, hle _ _ k2, k3.mono hle (hold _ _ k2), by simp; omega, ?_⟩
                intro b r' hb1 e'
                rcases hback b r' hb1 with ⟨_, rfl⟩ | h
                · simp at e'; omega
                · exact k5 b r' h e'
          · have m := I.mv
            refine ⟨Place.le_trans m.le hle, m.os, m.output, ⟨m.tape.eq, m.tape.dr⟩, by have := m.size; simp; omega, m.next, m.res, ?_, ?_, ?_⟩
            · intro b q hq
              rcases hback b q hq with ⟨h, rfl⟩ | h
              · refine .inr ⟨by omega, ?_, .inl m.size⟩
                show b < (SS ps.length).next
                omega
              · exact m.fresh b q h
            · intro k hk hk2
              rw [World.push_old w _ k (Nat.lt_of_lt_of_le hk m.size)]
              exact m.frame k hk hk2
            · intro b vs' l z q hg hq
              obtain ⟨g1, g2⟩ := m.ro b vs' l z q hg hq
              exact ⟨g1, (hold b q (m.le _ _ hq)).trans g2⟩
    · -- it turns nothing
      have hb' : p.big = false := by simpa using hb
      have hx := I.calm C hc hp ho hn hrdy hb' hw hv
      have hcl : p.op.cls ≠ 2 := by
        intro h
        simp [PO.big, h] at hb'
      have hx' : opVal e p.op (evPart p.op (TS i)) (SS c) = some (v, SS c) := by
        rw [opVal_xop hcl, ← xop_congr evPart_eq]; exact hx
      have hR : HR P (SS c).next μ (SS c) w := I.hr.at_R fun b q hq => Nat.lt_or_ge b _
      have hcn : (SS c).next ≤ (SS ps.length).next := C.S_mono hE I.c_le (Nat.le_refl _)
      refine opVal_wpIn hE e1 hx' (Nat.le_refl _) hR hρ hF' ?_ n
      intro ν x w1 h1 h2 h3
      have hback : ∀ b q, ν b = some q → μ b = some q := by
        intro b q hq
        rcases h3.fresh b q hq with h | ⟨g1, g2, _⟩
        · exact h
        · omega
      rw [← e2]
      refine hK _ w1 ν c (I.upd C hp ho hn hrdy h3.le (fun u t hd hu => by rw [hget u t hd hu]; exact h1) I.c_le (fun j q g1 g2 g3 => .inr (I.below j q g1 g2 g3)) (h2.at_R fun b q _ => .inr (Nat.zero_le _)) ?_ ?_ (I.mv.through hmc h3 hcn))
      · intro b q hq
        rcases I.lt b q (hback b q hq) with h | ⟨j, k1, k2, k3, k4, k5⟩ | h
        · exact .inl h
        · exact .inr (.inl ⟨j, k1, k2, .inr k3, k4, k5⟩)
        · exact .inr (.inr h)
      · intro j q g1 g2 g3 g4
        have hjl : j < ps.length := (List.getElem?_eq_some_iff.1 g2).1
        have hjm := C.S_mono hE (i := c) (j := j) g1 (by omega)
        rcases g4 with rfl | g4
        · exfalso
          rw [hp] at g2; cases g2
          rw [hb'] at g3; cases g3
        · rcases I.pend j q g1 g2 g3 g4 with h | ⟨ob, r, k1, k2, k3, k4, k5⟩
          · exact .inl h
          · refine .inr ⟨ob, r, k1, h3.le _ _ k2, k3.mono h3.le ?_, Nat.lt_of_lt_of_le k4 h3.size, ?_⟩
            · refine h3.frame r.1 k4 fun b r' hb1 hb2 e' => ?_
              have := k5 b r' hb2 e'
              omega
            · intro b r' hb1 e'
              exact k5 b r' (hback b r' hb1) e'
end
end Go.Proofs.Ytjejgnbdlfkenaa.D
namespace Go.Proofs.Ytjejgnbdlfkenaa.D
variable {P : Program}

theorem prepPOs_spec {all : List Oper} : ∀ {l : List Oper} {ps : List PO}, prepPOs P all l = some ps → ps.length = l.length ∧ ∀ (i : Nat) (p : PO), ps[i]? = some p → ∃ o, l[i]? = some o ∧ prepPO P all o = some p
  | [], ps, h => by
    cases h
    exact ⟨rfl, by intro i p hp; simp at hp⟩
  | o :: l, ps, h => by
    simp only [prepPOs] at h
    split at h
    case h_2 => cases h
    rename_i p hp
    split at h
    case h_2 => cases h
    rename_i r hr
    cases h
    obtain ⟨h1, h2⟩ := prepPOs_spec hr
    refine ⟨by simp [h1], ?_⟩
    intro i q hq
    cases i with
    | zero => simp only [List.getElem?_cons_zero, Option.some.injEq] at hq; subst hq; exact ⟨o, rfl, hp⟩
    | succ i => rw [List.getElem?_cons_succ] at hq ⊢; exact h2 i q hq

theorem okPOs_spec {N : Nat} : ∀ {ps : List PO}, okPOs N ps = true → ∀ (i : Nat) (p : PO), ps[i]? = some p → ∀ t, p.dst = some t → t < N
  | [], _, i, p, hp, _, _ => by simp at hp
  | q :: ps, h, i, p, hp, t, ht => by
    simp only [okPOs, Bool.and_eq_true] at h
    cases i with
    | zero =>
      simp only [List.getElem?_cons_zero, Option.some.injEq] at hp
      subst hp
      have := h.1
      rw [ht] at this
      simpa using this
    | succ i =>
      rw [List.getElem?_cons_succ] at hp
      exact okPOs_spec h.2 i p hp t ht

theorem looksOk_spec {ops : List PO} {ts : Tr AV} {snaps : List St} : ∀ {ls : List Look}, looksOk ops ts snaps ls = true → ∀ l ∈ ls, lookOk ops ts snaps l = true
  | [], _, l, hl => by simp at hl
  | x :: ls, h, l, hl => by
    simp only [looksOk, Bool.and_eq_true] at h
    rcases List.mem_cons.1 hl with rfl | hl
    · exact h.1
    · exact looksOk_spec h.2 l hl

theorem lookAll_spec {p : PO} {ts : Tr AV} {snaps : List St} {v : AV} : ∀ {cs : List Nat}, lookAll p ts snaps v cs = true → ∀ c ∈ cs, ∃ s s', snaps[c]? = some s ∧ xop p.op (evOf ts) s = some (v, s')
  | [], _, c, hc => by simp at hc
  | x :: cs, h, c, hc => by
    simp only [lookAll, Bool.and_eq_true] at h
    rcases List.mem_cons.1 hc with rfl | hc
    · have h1 := h.1
      split at h1
      · rename_i s hs
        split at h1
        · rename_i u s' hx
          rw [← same_eq h1]
          exact ⟨s, s', hs, hx⟩
        · cases h1
      · cases h1
    · exact lookAll_spec h.2 c hc

theorem T_keep0 {e : Eng} {ps : List PO} {TS : Nat → Tr AV} {SS : Nat → St} (hstep : ∀ (i : Nat) (p : PO), ps[i]? = some p → opStep e p (TS i) (SS i) = some (TS (i + 1), SS (i + 1))) {i t : Nat} : ∀ {j : Nat}, i ≤ j → j ≤ ps.length →
    (∀ k p, i ≤ k → k < j → ps[k]? = some p → p.dst ≠ some t) → (TS j).get t = (TS i).get t := by
  intro j
  induction j with
  | zero => intro h _ _; have : i = 0 := by omega
            subst this; rfl
  | succ j ih =>
    intro h hl hk
    by_cases e' : i = j + 1
    · subst e'; rfl
    · have hj : j < ps.length := by omega
      have hp := List.getElem?_eq_getElem hj
      obtain ⟨v, hv, _⟩ := opStep_spec (hstep _ _ hp)
      rw [← ih (by omega) (by omega) (fun k p h1 h2 => hk k p h1 (by omega)), hv]
      have hne := hk j _ (by omega) (by omega) hp
      cases hd : ps[j].dst with
      | none => rfl
      | some u =>
        rw [hd] at hne
        simp only [putT, Tr.get_set]
        rw [if_neg]
        intro e'; subst e'; exact hne rfl

theorem wantedA_congr {g : Option (Nat × Bool)} {ts ts' : Tr AV} (h : ∀ t k, g = some (t, k) → ts.get t = ts'.get t) : wantedA g ts = wantedA g ts' := by
  cases g with
  | none => rfl
  | some tk =>
    obtain ⟨t, k⟩ := tk
    simp only [wantedA]
    rw [h t k rfl]

theorem ctx_of {e : Eng} {ops : Array Oper} {ps : List PO} {N : Nat} (h1 : prepPOs P ops.toList ops.toList = some ps) (hedge : edgesOk ops.toList = true) (htmp : tmpsOk ps (befores ops.toList) = true) (hdst : dstsOk ps = true)
    (hbig : bigsOk ps (befores ops.toList) = true) (hread : readsOk ps (befores ops.toList) = true) (hok : okPOs N ps = true) {ts ts' : Tr AV} {s s' : St} {snaps : List St} (hrun : runSnaps e ps ts s [] = some (ts', s', snaps))
    (hlook : looksOk ps ts' snaps.reverse (looksOf ps (befores ops.toList)) = true) :
    ∃ (TS : Nat → Tr AV) (SS : Nat → St), Ctx P e ops ps TS SS N ∧ TS 0 = ts ∧ SS 0 = s ∧ TS ps.length = ts' ∧ SS ps.length = s' := by
  obtain ⟨TS, SS, t1, t2, t3, t4, hstep, hsn⟩ := trace ps _ _ _ _ _ _ hrun
  obtain ⟨hlen, hop⟩ := prepPOs_spec h1
  have tmem : ∀ {p : PO} {t : Nat}, (t ∈ p.op.uses ∨ ∃ k, p.guard = some (t, k)) → t ∈ p.op.uses ++ (p.guard.map (·.1)).toList := by
    intro p t h
    rcases h with h | ⟨k, h⟩
    · simp [h]
    · simp [h]
  refine ⟨TS, SS, ⟨by simpa using hlen, fun {i p} hp => hop i p hp, fun {i p} hp => hstep i p hp, hedge, fun {i p t} hp ht => okPOs_spec hok i p hp t ht, ?_, ?_, ?_, ?_, ?_⟩, t1, t2, t3, t4⟩
  · intro i j p q t hp hq hd hd'
    have := all_zipIdx.1 (all_zipIdx.1 hdst i p hp) j q hq
    simp only [hd, hd', Bool.or_eq_true, beq_iff_eq, Option.isNone_some, bne_self_eq_false, Bool.false_eq_true, or_false] at this
    exact this
  · intro i p t hp ht j q hq hd
    have h2 := all_zipIdx.1 htmp i p hp
    have h3 := List.all_eq_true.1 h2 t (tmem ht)
    have := all_zipIdx.1 h3 j q hq
    simp only [hd, Bool.or_eq_true, beq_iff_eq, bne_self_eq_false, Bool.false_eq_true, false_or] at this
    rcases this with (h | h) | h
    · exact .inl h
    · exact .inr (.inl h)
    · exact .inr (.inr h)
  · intro i j p q hp hq hpb hqb hlt
    have h2 := all_zipIdx.1 hbig i p hp
    simp only [hpb, Bool.not_true, Bool.false_or] at h2
    have := all_zipIdx.1 h2 j q hq
    simp only [hqb, Bool.not_true, Bool.false_or, Bool.or_eq_true, beq_iff_eq, Bool.not_eq_true'] at this
    rcases this with (h | h) | h
    · exfalso
      rw [show Nat.blt i j = true from by rw [Nat.blt_eq]; exact hlt] at h
      cases h
    · exact .inl h
    · exact .inr h
  · intro i p hp hc j q hq hqb ha c r hr hrb hcj
    have h2 := all_zipIdx.1 hread i p hp
    simp only [hc, bne_self_eq_false, Bool.false_or, Bool.and_eq_true] at h2
    have h3 := all_zipIdx.1 h2.1 j q hq
    simp only [hqb, ha, Bool.not_true, Bool.false_or] at h3
    have := all_zipIdx.1 h3 c r hr
    simp only [hrb, show Nat.blt c j = true from by rw [Nat.blt_eq]; exact hcj, Bool.not_true, Bool.false_or] at this
    exact this
  · intro i p hp hc hset v hw hv c hcs
    have hil : i < ps.length := (List.getElem?_eq_some_iff.1 hp).1
    have h2 := all_zipIdx.1 hread i p hp
    simp only [hc, hset, bne_self_eq_false, Bool.false_or, Bool.and_eq_true] at h2
    have hkeep : ∀ t, (t ∈ p.op.uses ∨ ∃ k, p.guard = some (t, k)) → (TS ps.length).get t = (TS i).get t := by
      intro t ht
      refine T_keep0 hstep (by omega) (Nat.le_refl _) fun k q g1 g2 g3 hd => ?_
      have h3 := List.all_eq_true.1 h2.2 t (tmem ht)
      have := all_zipIdx.1 h3 k q g3
      simp only [hd, bne_self_eq_false, Bool.false_or] at this
      have := ahead_lt hedge _ this
      omega
    have hl : (⟨i, spots ps (befores ops.toList) i⟩ : Look) ∈ looksOf ps (befores ops.toList) := by
      unfold looksOf
      rw [List.mem_filterMap]
      exact ⟨(p, i), List.mem_zipIdx_iff_getElem?.2 hp, by simp [hc, hset]⟩
    have hlo := looksOk_spec hlook _ hl
    unfold lookOk at hlo
    simp only [hp] at hlo
    have hwt : wantedA p.guard ts' = some true := by
      rw [← hw, ← t3]
      exact wantedA_congr fun t k hg => hkeep t (.inr ⟨k, hg⟩)
    rw [hwt] at hlo
    simp only [] at hlo
    split at hlo
    case h_1 => cases hlo
    rename_i d hd
    split at hlo
    case h_1 => cases hlo
    rename_i u hu
    have huv : u = v := by
      obtain ⟨v', hv1, hcase⟩ := opStep_spec (hstep i p hp)
      have hv2 : v' = v := by
        rcases hcase with ⟨hw2, _⟩ | ⟨_, hv3⟩
        · rw [hw] at hw2; cases hw2
        · rw [hv] at hv3; cases hv3; rfl
      have : (TS ps.length).get d = (TS (i + 1)).get d := by
        refine T_keep0 hstep (by omega) (Nat.le_refl _) fun k q g1 g2 g3 hd' => ?_
        have := all_zipIdx.1 (all_zipIdx.1 hdst i p hp) k q g3
        simp only [hd, hd', Bool.or_eq_true, beq_iff_eq, Option.isNone_some, bne_self_eq_false, Bool.false_eq_true, or_false] at this
        omega
      rw [t3, hu, hv1, hd] at this
      simp only [putT, Tr.get_set, if_true, Option.some.injEq] at this
      rw [this, hv2]
    subst huv
    obtain ⟨s1, s1', hs1, hx1⟩ := lookAll_spec hlo c hcs
    have hcl : c ≤ ps.length := by
      unfold spots at hcs
      simp only [List.mem_filter, List.mem_range] at hcs
      omega
    have := hsn c hcl
    simp only [List.length_nil, Nat.zero_add] at this
    rw [this] at hs1
    cases hs1
    have hsame := xop_look hc hx1
    rw [hsame] at hx1
    rw [← hx1]
    exact xop_congr fun x hx => by
      cases x with
      | c _ => rfl
      | t t => exact (by rw [← t3]; exact (hkeep t (.inl (List.mem_flatMap.2 ⟨.t t, hx, by simp [xuse]⟩))).symm)

def left (listed : Array Bool) : Nat := listed.toList.countP (· == false)

theorem left_set {l : List Bool} : ∀ {i : Nat}, l[i]? = some false → (l.set i true).countP (· == false) + 1 = l.countP (· == false) := by
  induction l with
  | nil => intro i h; simp at h
  | cons x l ih =>
    intro i h
    cases i with
    | zero =>
      simp only [List.getElem?_cons_zero, Option.some.injEq] at h
      subst h
      simp
    | succ i =>
      rw [List.getElem?_cons_succ] at h
      have := ih h
      simp only [List.set_cons_succ, List.countP_cons]
      omega

theorem left_zero {l : List Bool} (h : l.countP (· == false) = 0) (i : Nat) (hi : i < l.length) : l[i]? = some true := by
  rw [List.countP_eq_zero] at h
  have := h l[i] (List.getElem_mem hi)
  rw [List.getElem?_eq_getElem hi]
  simpa using this

section
variable {e : Eng} {ops : Array Oper} {ps : List PO} {TS : Nat → Tr AV} {SS : Nat → St} {N : Nat}
variable {R0 : Nat} {ds : List Nat} {μ0 : Place} {w0 : World}

theorem drawn_end (hE : EngOk P e) (C : Ctx P e ops ps TS SS N) (hs0 : ∀ b o, (SS 0).get b = some o → b < (SS 0).next) {Q : Exit → Act → World → Prop}
    (hQ : ∀ ν a' w', TR ν (TS ps.length) a'.tmps → a'.tmps.size = N → DR ν ds a'.defers → HR P R0 ν (SS ps.length) w' → Mv μ0 (SS 0) w0 ν (SS ps.length) w' → Q .normal a' w')
    {listed : Array Bool} {a : Act} {w : World} {μ : Place} {c : Nat} (I : Inv ops ps TS SS N P R0 ds μ0 w0 listed a w μ c) (hall : ∀ i, i < ps.length → Ls listed i) : Q .normal a w := by
  obtain ⟨c', I', hc⟩ := I.advance hE C hs0 _ rfl
  rcases hc with rfl | ⟨p, hp, _, hn⟩
  · refine hQ μ a w ?_ I'.tsz I'.dfr (I'.hr.at_R ?_) I'.mv
    · intro t v hv
      by_cases hw : ∃ (i : Nat) (p : PO), ps[i]? = some p ∧ p.dst = some t
      · obtain ⟨i, p, hp, hd⟩ := hw
        have hil : i < ps.length := (List.getElem?_eq_some_iff.1 hp).1
        refine I'.tm1 i p t v hp hd (hall i hil) ?_
        rw [← hv]
        exact (C.T_keep (by omega) (Nat.le_refl _) fun k q h1 _ hq hdq => by
          have := C.dst hq hp hdq hd
          omega).symm
      · refine I'.tm2 t v (fun i p hp hd => absurd ⟨i, p, hp, hd⟩ hw) ?_
        rw [← hv]
        exact (C.T_keep (Nat.zero_le _) (Nat.le_refl _) fun k q _ _ hq hdq => hw ⟨k, q, hq, hdq⟩).symm
    · intro b q hq
      rcases I'.lt b q hq with h | ⟨j, h1, h2, _⟩ | h
      · exact .inl h
      · omega
      · exact .inr h
  · exact absurd (hall c' (List.getElem?_eq_some_iff.1 hp).1) hn

theorem drawn_any (hE : EngOk P e) (C : Ctx P e ops ps TS SS N) (hs0 : ∀ b o, (SS 0).get b = some o → b < (SS 0).next) (hR0 : (SS ps.length).next ≤ R0) {ro : Option Nat} {F : Fence} (hF : FenceOk μ0 ro F) {n : Nat} {Q : Exit → Act → World → Prop}
    (hQ : ∀ ν a' w', TR ν (TS ps.length) a'.tmps → a'.tmps.size = N → DR ν ds a'.defers → HR P R0 ν (SS ps.length) w' → Mv μ0 (SS 0) w0 ν (SS ps.length) w' → Q .normal a' w') :
    ∀ (fuel : Nat) (listed : Array Bool) (a : Act) (w : World) (μ : Place) (c : Nat), left listed = fuel → Inv ops ps TS SS N P R0 ds μ0 w0 listed a w μ c → wpAnyIn F n P .any ops Q fuel listed a w := by
  intro fuel
  induction fuel with
  | zero =>
    intro listed a w μ c hf I
    have hall : ∀ i, i < ps.length → Ls listed i := by
      intro i hi
      have := left_zero hf i (by rw [Array.length_toList, I.size]; exact hi)
      unfold Ls
      rw [Array.getD_eq_getD_getElem?, ← Array.getElem?_toList, this]
      rfl
    refine ⟨?_, drawn_end hE C hs0 hQ I hall⟩
    apply List.eq_nil_iff_forall_not_mem.2
    intro j hj
    obtain ⟨h1, o, h2, _⟩ := mem_ready.1 hj
    have hjl : j < ps.length := by
      rw [C.len]
      exact (Array.getElem?_eq_some_iff.1 h2).1
    have := hall j hjl
    unfold Ls at this
    rw [h1] at this
    cases this
  | succ fuel ih =>
    intro listed a w μ c hf I
    refine ⟨?_, ?_⟩
    · intro hr
      refine drawn_end hE C hs0 hQ I ?_
      intro i
      induction i using Nat.strongRecOn with
      | _ i ihi =>
        intro hi
        refine Classical.byContradiction fun hn => ?_
        have hio : i < ops.size := by rw [← C.len]; exact hi
        have hm : i ∈ Region.ready .any ops listed := by
          refine mem_ready.2 ⟨by unfold Ls at hn; simpa using hn, ops[i], Array.getElem?_eq_getElem hio, ?_⟩
          intro e' he hb
          have hlt : e'.on < i := edgesOk_lt C.edge (i := i) (o := ops[i]) (by simp [hio]) (by simpa using he) hb
          have := ihi e'.on hlt (by omega)
          unfold Ls at this
          rw [Array.getD_eq_getD_getElem?] at this ⊢
          rw [Array.getElem?_eq_getElem (by rw [I.size]; omega)] at this ⊢
          exact this
        rw [hr] at hm
        cases hm
    · intro i hi
      obtain ⟨h1, o, h2, h3⟩ := mem_ready.1 hi
      have hil : i < ps.length := by
        rw [C.len]
        exact (Array.getElem?_eq_some_iff.1 h2).1
      have hp := List.getElem?_eq_getElem hil
      obtain ⟨o', ho', hpo⟩ := C.op hp
      have ho : ops.toList[i]? = some o := by rw [Array.getElem?_toList]; exact h2
      rw [ho] at ho'; cases ho'
      have hn : ¬ Ls listed i := by unfold Ls; rw [h1]; simp
      obtain ⟨c', I', hc⟩ := I.advance hE C hs0 _ rfl
      refine I'.step hE C hR0 hF hc hp ho hpo hn ?_ ?_
      · intro e' he hb
        have := h3 e' (by simpa using he) hb
        unfold Ls
        rw [Array.getD_eq_getD_getElem?] at this ⊢
        by_cases hl : e'.on < listed.size
        · rw [Array.getElem?_eq_getElem hl] at this ⊢; exact this
        · rw [Array.getElem?_eq_none (by omega)] at this; cases this
      · intro a' w' μ' c2 I2
        refine ih _ a' w' μ' c2 ?_ I2
        have hl : listed.toList[i]? = some false := by
          have hlt : i < listed.size := by rw [I.size]; exact hil
          rw [Array.getD_eq_getD_getElem?, Array.getElem?_eq_getElem hlt] at h1
          rw [Array.getElem?_toList, Array.getElem?_eq_getElem hlt]
          simpa using h1
        have := left_set hl
        unfold left at hf ⊢
        rw [Array.toList_setIfInBounds]
        omega
end

theorem drawn_wpIn {e : Eng} (hE : EngOk P e) (hm : P.follows .mixedOrders = true) {id : Nat} {ops : Array Oper} {ps : List PO} {N : Nat} (h1 : prepPOs P ops.toList ops.toList = some ps) (hedge : edgesOk ops.toList = true) (htmp : tmpsOk ps (befores ops.toList) = true) (hdst : dstsOk ps = true)
    (hbig : bigsOk ps (befores ops.toList) = true) (hread : readsOk ps (befores ops.toList) = true) (hok : okPOs N ps = true) {ts ts' : Tr AV} {s s' : St} {snaps : List St} (hrun : runSnaps e ps ts s [] = some (ts', s', snaps))
    (hlook : looksOk ps ts' snaps.reverse (looksOf ps (befores ops.toList)) = true) {R : Nat} (hR : s'.next ≤ R) {μ : Place} {w : World} (h : HR P R μ s w) {a : Act} (ht : TR μ ts a.tmps) (hN : a.tmps.size = N) {ds : List Nat} (hd : DR μ ds a.defers)
    {ro : Option Nat} {F : Fence} (hF : FenceOk μ ro F) {n : Nat} {Q : Exit → Act → World → Prop}
    (hQ : ∀ ν a' w', TR ν ts' a'.tmps → a'.tmps.size = N → DR ν ds a'.defers → HR P R ν s' w' → Mv μ s w ν s' w' → Q .normal a' w') : (Code.region id ops true).wpIn F n P Q a w := by
  obtain ⟨TS, SS, C, rfl, rfl, rfl, rfl⟩ := ctx_of h1 hedge htmp hdst hbig hread hok hrun hlook
  refine wpIn_region_any hm ?_
  refine drawn_any hE C h.dom hR hF (w0 := { w with drawn := w.drawn + 1 }) (ds := ds) ?_ ops.size _ a _ μ 0 (by unfold left; simp [List.countP_replicate]) ?_
  · intro ν a' w' g1 g2 g3 g4 g5
    exact hQ ν a' w' g1 g2 g3 g4 ⟨g5.le, g5.os, g5.output, ⟨g5.tape.eq, fun hs => Nat.le_trans (Nat.le_succ _) (g5.tape.dr hs)⟩, g5.size, g5.next, g5.res, g5.fresh, g5.frame, g5.ro⟩
  · have hnl : ∀ i, i < ps.length → ¬ Ls (Array.replicate ops.size false) i := by
      intro i hi
      unfold Ls
      rw [Array.getD_eq_getD_getElem?, Array.getElem?_replicate, if_pos (by rw [← C.len]; exact hi)]
      simp
    have hsz : ∀ {i : Nat} {p : PO}, ps[i]? = some p → i < ps.length := fun hp => (List.getElem?_eq_some_iff.1 hp).1
    have hmono := C.S_mono hE (i := 0) (j := ps.length) (Nat.zero_le _) (Nat.le_refl _)
    refine ⟨by simp [C.len], ?_, Nat.zero_le _, fun i p hi => by omega, (h.heap_eq (w' := { w with drawn := w.drawn + 1 }) rfl).at_R fun b p _ => .inr (Nat.zero_le _), ?_, ?_, ?_, ?_, hN, hd, ?_⟩
    · intro i o hi ho
      have : i < ops.size := by
        have := (List.getElem?_eq_some_iff.1 ho).1
        simpa using this
      exact absurd hi (hnl i (by rw [C.len]; exact this))
    · intro b p hb
      rcases (h.lt b p hb).2 with h' | h'
      · exact .inl h'
      · exact .inr (.inr h')
    · intro j p _ hp _ hl
      exact absurd hl (hnl j (hsz hp))
    · intro i p t v hp _ hl
      exact absurd hl (hnl i (hsz hp))
    · intro t v _ hv
      exact ht t v hv
    · refine ⟨Place.le_refl _, rfl, rfl, .refl _, Nat.le_refl _, hmono, fun b p hb => ?_, fun b p hb => .inl hb, fun _ _ _ => rfl, fun b vs l z p hb _ => ⟨hb, rfl⟩⟩
      rcases (h.lt b p hb).2 with h' | h'
      · exact .inl h'
      · exact .inr (Nat.le_trans hR h')
end Go.Proofs.Ytjejgnbdlfkenaa.D
namespace Go.Proofs.Ytjejgnbdlfkenaa.D
variable {P : Program}

theorem Left.trans {R : Nat} {μ ν : Place} {s s1 : St} {w w1 : World} {N : Nat} {x : AExit} {ts' : Tr AV} {ds' : List Nat} {s' : St} {e : Exit} {a : Act} {w' : World} (m : Mv μ s w ν s1 w1) (h : Left P R ν s1 w1 N x ts' ds' s' e a w') : Left P R μ s w N x ts' ds' s' e a w' := by
  obtain ⟨h1, ξ, h2, h3, h4, h5, h6⟩ := h
  exact ⟨h1, ξ, h2, h3, h4, h5, m.trans h6⟩

/-- A mark is come to: the block is shut. -/
theorem HR.shut {R : Nat} {μ : Place} {s : St} {w w' : World} (h : HR P R μ s w) (hR : s.next ≤ R) {b : Nat} {o : AObj} {p : Nat × Nat} (hb : s.get b = some o) (hp : μ b = some p) (hro : ∀ vs l e, o ≠ .cells vs l true e)
    (hos : w'.os = w.os) (hout : w'.output = w.output) (htape : TapeLe w w') (hsize : w'.heap.size = w.heap.size) (hk : ∀ k, k ≠ p.1 → w'.heap[k]? = w.heap[k]?) : HR P R μ (s.drop b) w' ∧ Mv μ s w μ (s.drop b) w' := by
  obtain ⟨hd, _⟩ := h.drop hR hb hro
  have other : ∀ c x q, (s.drop b).get c = some x → μ c = some q → q.1 ≠ p.1 := by
    intro c x q hc hq e'
    rw [St.get_drop] at hc
    by_cases ec : c = b
    · rw [if_pos ec] at hc; cases hc
    · rw [if_neg ec] at hc
      exact ec (h.inj c b _ _ q p hc hb hq hp e')
  refine ⟨⟨fun c x hc => ?_, hd.inj, fun c q hq => by rw [hsize]; exact hd.lt c q hq, hd.dom⟩, ⟨Place.le_refl _, hos, hout, htape, by omega, Nat.le_refl _, fun c q hq => (h.lt c q hq).2.imp id (Nat.le_trans hR), fun _ q hq => .inl hq, ?_, ?_⟩⟩
  · obtain ⟨q, hq, hx⟩ := hd.obj c x hc
    exact ⟨q, hq, hx.mono (Place.le_refl _) (hk q.1 (other c x q hc hq))⟩
  · intro k _ hn
    exact hk k fun e' => hn b p (h.dom b o hb) hp e'.symm
  · intro c vs l z q hc hq
    have hne : c ≠ b := by
      intro e'; subst e'; rw [hb] at hc; cases hc; exact hro _ _ _ rfl
    refine ⟨?_, hk q.1 fun e' => hne (h.inj c b _ _ q p hc hb hq hp e')⟩
    rw [St.get_drop, if_neg hne]
    exact hc

theorem rangeA_sound {e : Eng} (hE : EngOk P e) {ro : Option Nat} {fv : AV} {params : List Nat} {asg bd : PC} {ts ts' : Tr AV} {ds ds' : List Nat} {s s' : St} {x : AExit} (hx : rangeA e ro fv params asg bd ts ds s = some (x, ts', ds', s'))
    {R : Nat} (hR : s'.next ≤ R) {μ : Place} {w : World} (h : HR P R μ s w) {g : Operand} {ps : Array Tmp} {assign body : Code} {N : Nat} (hps : ps.toList = params) (hpa : prepC P assign = some asg) (hpb : prepC P body = some bd)
    (ok1 : okNats N params = true) (ok2 : okPC N asg = true) (ok3 : okPC N bd = true) {a : Act} (ht : TR μ ts a.tmps) (hN : a.tmps.size = N) (hd : DR μ ds a.defers) {F : Fence} (hF : FenceOk μ ro F) (hf : conc μ fv = some (a.eval g)) (n : Nat) :
    (Code.rangeFunc g ps assign body).wpIn F n P (Left P R μ s w N x ts' ds' s') a w := by
  have hn := rangeA_next hE.next hx
  unfold rangeA at hx
  split at hx
  case h_2 => cases hx
  rename_i f first captured
  obtain ⟨xs, ys, _, hxs, hys, e1⟩ := conc_fn hf
  split at hx
  case h_1 => cases hx
  rename_i l ds1 s2 h0
  split at hx
  case h_1 => cases hx
  rename_i rv s3 hc
  -- from the two blocks on
  have fin : ∀ (ν : Place) (w2 : World) (pl : Nat × Nat) (mark : List Deferred) (fn : FuncId), HR P R ν s2 w2 → Mv μ s w ν s2 w2 → ν l = some pl → DR ν ds1 (mark ++ a.defers) → FenceOk ν ro F →
      (Instr.enterLoop fn a.tmps ps assign body F.round).run P w = .ok (pl.1, mark) w2 →
      ∃ (l : Nat) (mark : List Deferred) (w₁ : World) (d : Deferred) (w₁' : World) (f : FuncId) (args : Array Value) (w₂ : World),
        (Instr.enterLoop fn a.tmps ps assign body F.round).run P w = .ok (l, mark) w₁ ∧ (resolve a.eval (rangeCall g l) 0).run P w₁ = .ok d w₁' ∧ (∀ f', Target.leads P w₁' d.target d.args = some f' → F.fn f') ∧
        (invoke d.target d.args).run P w₁' = .ok (.enter f args) w₂ ∧ (F.depth.isSome = true → 1 ≤ n) ∧ CallsIn F (n - 1) P f args w₂ (rangePost F n P l (Left P R μ s w N x ts' ds' s') { a with defers := mark ++ a.defers }) := by
    intro ν w2 pl mark fn hν hm hpl hdr hFν hent
    have n2 := hE.next.call hc
    have n3 : s3.next ≤ s'.next := by
      split at hx
      all_goals first
        | (cases hx; done)
        | (cases hx; simp)
    have hargs : concs ν (first ++ [.yld l] ++ captured) = some (xs ++ [.func (.yield pl.1) #[] #[]] ++ ys) :=
      concs_append (concs_append (concs_mono hm.le _ _ hxs) (by simp [concs, conc, hpl])) (concs_mono hm.le _ _ hys)
    obtain ⟨⟨fn', f1, f2, f3⟩, hcall⟩ := hE.call hc (R := R) (by omega) hν hargs
    refine ⟨pl.1, mark, w2, { target := .fn (.func f) ys.toArray, args := xs.toArray ++ #[.func (.yield pl.1) #[] #[]] }, w2, f, _, w2, hent, ?_, fun f' _ => hF.fn f', ?_, fun hdp => (by rw [hF.depth] at hdp; cases hdp), (hF.calls (hcall (n - 1))).mono ?_⟩
    · simp only [resolve, e1, Deferred.ofValue, Sem.run_pure]
      simp [Act.eval]
    · simp only [invoke]
      rw [run_callFunc f1 f2 f3]
      simp
    · intro en w3 hr
      cases en with
      | panicked _ => exact hr.elim
      | outgrown => exact hr.elim
      | returned cv =>
        obtain ⟨ξ, _, g2, g3⟩ := hr
        have hpl' : ξ l = some pl := g3.le _ _ hpl
        split at hx
        case h_1 => cases hx
        case h_3 => cases hx
        rename_i st pend ts2 ps2 a2 b2 d2 hst hg
        obtain ⟨L, q, k1, k2, k3, k4⟩ := g2.loop hg hpl'
        obtain ⟨t1, t2⟩ := g2.loop_turn (st' := .exhausted) (pe' := pend) (by omega) hg hpl' k1
        have e2 : ({ L with state := LoopState.exhausted, pending := jumpCode pend } : Loop) = { L with state := .exhausted } := by rw [← k3]
        rw [e2] at t1 t2
        cases hx
        have hnb : L.state ≠ .busy := by
          rw [k2]
          intro e3
          exact hst e3
        refine ⟨_, _, run_endLoop k1 hnb, ?_⟩
        have hleft : ∀ e, e = exitOf x → Left P R μ s w N x ts ds' (s3.put l (.loop .exhausted x ts2 ps2 a2 b2 d2)) e { a with defers := mark ++ a.defers } (w3.putObj pl.1 (.loop { L with state := .exhausted })) := by
          intro e he
          exact ⟨he, ξ, ht.mono (Place.le_trans hm.le g3.le), hN, hdr.mono g3.le, t1, (hm.trans g3).trans t2⟩
        rw [k3] at hleft ⊢
        cases x with
        | normal => exact hleft _ rfl
        | exit id => exact wpIn_exit (hleft _ rfl)
        | ret => exact wpIn_ret (hleft _ rfl)
  refine wpIn_rangeFunc fun fn _ => ?_
  have nc := hE.next.call hc
  have hs2R : s2.next ≤ R := by
    have n3 : s3.next ≤ s'.next := by
      split at hx
      all_goals first
        | (cases hx; done)
        | (cases hx; simp)
    omega
  cases ro with
  | none =>
    simp only [Option.some.injEq, Prod.mk.injEq] at h0
    obtain ⟨rfl, rfl, rfl⟩ := h0
    simp at hs2R
    obtain ⟨b1, b2⟩ := h.new (R := R) (by omega) .defd (.deferred (some [])) 0 w.drawn (by simp [OR])
    obtain ⟨c1, c2⟩ := b1.new (R := R) (by simp; omega) (.loop .ready .normal ts params asg bd s.next) (.loop { state := .ready, pending := none, fn, tmps := a.tmps, params := ps, assign, body, defers := w.heap.size }) 0 w.drawn
      ⟨_, (w.heap.size, 0), World.push_new _ _ _, rfl, rfl, ht.mono (Place.le_trans b2.le (b1.le_add (by simp; omega) _)), hps, hpa, hpb, by simp [Place.add], rfl, by rw [hN]; exact ok1, by rw [hN]; exact ok2, by rw [hN]; exact ok3⟩
    have hF0 : F = Fence.wide := hF
    refine fin _ _ (w.heap.size + 1, 0) [{ target := .collected w.heap.size, args := #[] }] fn c1 (b2.trans c2) ?_ ?_ hF0 ?_
    · simp [Place.add]
    · exact ⟨⟨(w.heap.size, 0), by simp [Place.add], rfl⟩, hd.mono (b2.trans c2).le⟩
    · subst hF0
      exact run_enterLoop_outer fn a.tmps ps assign body
  | some l0 =>
    obtain ⟨p0, hp0, hF0⟩ := hF
    simp only [] at h0
    split at h0
    case h_2 => cases h0
    rename_i st0 pe0 ts0 ps0 a0 b0 d0 hg0
    simp only [Option.some.injEq, Prod.mk.injEq] at h0
    obtain ⟨rfl, rfl, rfl⟩ := h0
    simp at hs2R
    obtain ⟨L0, q0, k1, k2, k3, k4, k5, k6, k7, k8, k9, _⟩ := h.loop hg0 hp0
    obtain ⟨b1, b2⟩ := h.new (R := R) (by omega) (.loop .ready .normal ts params asg bd d0) (.loop { state := .ready, pending := none, fn, tmps := a.tmps, params := ps, assign, body, defers := L0.defers }) 0 w.drawn
      ⟨_, q0, World.push_new _ _ _, rfl, rfl, ht.mono (h.le_add (by omega) _), hps, hpa, hpb, h.le_add (by omega) _ _ _ k8, k9, by rw [hN]; exact ok1, by rw [hN]; exact ok2, by rw [hN]; exact ok3⟩
    refine fin _ _ (w.heap.size, 0) [] fn b1 b2 ?_ (hd.mono b2.le) ⟨p0, b2.le _ _ hp0, hF0⟩ ?_
    · simp [Place.add]
    · subst hF0
      exact run_enterLoop_inner k1 fn a.tmps ps assign body

theorem exStep_sound {e : Eng} (hE : EngOk P e) (hm : P.follows .mixedOrders = true) {ro : Option Nat} {pc : PC} {ts ts' : Tr AV} {ds ds' : List Nat} {s s' : St} {x : AExit} (hx : exStep e ro pc ts ds s = some (x, ts', ds', s'))
    {R : Nat} (hR : s'.next ≤ R) {μ : Place} {w : World} (h : HR P R μ s w) {c : Code} {N : Nat} (hp : prepC P c = some pc) (hok : okPC N pc = true) {a : Act} (ht : TR μ ts a.tmps) (hN : a.tmps.size = N) (hd : DR μ ds a.defers) {F : Fence} (hF : FenceOk μ ro F) (n : Nat) :
    c.wpIn F n P (Left P R μ s w N x ts' ds' s') a w := by
  cases c with
  | skip =>
    cases hp; cases hx
    exact wpIn_skip ⟨rfl, μ, ht, hN, hd, h, Mv.refl h hR⟩
  | region id ops draw =>
    simp only [prepC] at hp
    split at hp
    case h_1 => cases hp
    rename_i ps hps
    split at hp
    · rename_i hdr
      split at hp
      case isFalse => cases hp
      rename_i hck
      cases hp
      simp only [Bool.and_eq_true] at hck
      obtain ⟨⟨⟨⟨h1, h2⟩, h3⟩, h4⟩, h5⟩ := hck
      simp only [exStep] at hx
      split at hx
      case h_2 => cases hx
      rename_i ts1 s1 snaps hrun
      split at hx
      case isFalse => cases hx
      rename_i hlook
      cases hx
      subst hdr
      exact drawn_wpIn hE hm hps h1 h2 h3 h4 h5 hok hrun hlook hR h ht hN hd hF fun ν a' w' g1 g2 g3 g4 g5 => ⟨rfl, ν, g1, g2, g3, g4, g5⟩
    · rename_i hdr
      cases hp
      simp only [exStep] at hx
      split at hx
      case h_2 => cases hx
      rename_i ts1 s1 hrun
      cases hx
      have hdr' : draw = false := by simpa using hdr
      subst hdr'
      refine wpIn_region ?_
      have := ops_wpIn hE (ops := ops) (n := n) (Q := Left P R μ s w N .normal ts' ds s') ops.toList ps 0 a ts s w μ hps (fun i => by simp) hrun hR h ht hN hok hd hF fun ν a' w' g1 g2 g3 g4 g5 => ⟨rfl, ν, g1, g2, g3, g4, g5⟩
      rw [List.range_eq_range']
      simpa using this
  | seq c1 c2 =>
    simp only [prepC] at hp
    split at hp
    case h_1 => cases hp
    rename_i p1 hp1
    split at hp
    case h_1 => cases hp
    rename_i p2 hp2
    cases hp
    simp only [okPC, Bool.and_eq_true] at hok
    simp only [exStep] at hx
    split at hx
    · rename_i ts1 ds1 s1 h1
      have n2 := hE.next.ex hx
      refine wpIn_seq (wpIn_mono (hE.ex h1 (R := R) (by omega) h hp1 hok.1 ht hN hd hF n) ?_)
      rintro ex a1 w1 ⟨rfl, ν, g1, g2, g3, g4, g5⟩
      exact wpIn_mono (hE.ex hx hR g4 hp2 hok.2 g1 g2 g3 (hF.mono g5.le) n) fun _ _ _ hl => hl.trans g5
    · rename_i hne
      refine wpIn_seq (wpIn_mono (hE.ex hx hR h hp1 hok.1 ht hN hd hF n) ?_)
      rintro ex a1 w1 hl
      have : ex ≠ .normal := by
        rw [hl.1]
        intro he
        cases x with
        | normal => exact hne _ _ _ hx
        | exit id => cases he
        | ret => cases he
      cases ex with
      | normal => exact absurd rfl this
      | _ => exact hl
  | cond c0 c1 c2 =>
    simp only [prepC] at hp
    split at hp
    case h_1 => cases hp
    rename_i z hz
    split at hp
    case h_1 => cases hp
    rename_i p1 hp1
    split at hp
    case h_1 => cases hp
    rename_i p2 hp2
    cases hp
    simp only [okPC, Bool.and_eq_true] at hok
    simp only [exStep] at hx
    split at hx
    · rename_i hv
      have := evR_of ht _ _ _ hz hv
      simp only [conc, Option.some.injEq] at this
      exact wpIn_cond (t := true) this.symm (hE.ex hx hR h hp1 hok.1 ht hN hd hF n)
    · rename_i hv
      have := evR_of ht _ _ _ hz hv
      simp only [conc, Option.some.injEq] at this
      exact wpIn_cond (t := false) this.symm (hE.ex hx hR h hp2 hok.2 ht hN hd hF n)
    · cases hx
  | block id c1 =>
    simp only [prepC] at hp
    split at hp
    case h_1 => cases hp
    rename_i p1 hp1
    cases hp
    simp only [exStep] at hx
    split at hx
    · rename_i id' ts1 ds1 s1 h1
      cases hx
      refine wpIn_block (wpIn_mono (hE.ex h1 hR h hp1 hok ht hN hd hF n) ?_)
      rintro ex a1 w1 ⟨rfl, hl⟩
      simp only [exitOf, Exit.inBlock]
      by_cases hid : id' = id
      · rw [if_pos hid, if_pos hid]; exact ⟨rfl, hl⟩
      · rw [if_neg hid, if_neg hid]; exact ⟨rfl, hl⟩
    · rename_i hne
      refine wpIn_block (wpIn_mono (hE.ex hx hR h hp1 hok ht hN hd hF n) ?_)
      rintro ex a1 w1 hl
      cases x with
      | normal => rw [hl.1]; rw [hl.1] at hl; exact hl
      | exit id => exact absurd hx (hne _ _ _ _)
      | ret => rw [hl.1]; rw [hl.1] at hl; exact hl
  | loop c1 =>
    simp only [prepC] at hp
    split at hp
    case h_1 => cases hp
    rename_i p1 hp1
    cases hp
    refine LoopIn.wpIn (LoopIn.step ?_)
    simp only [exStep] at hx
    split at hx
    · rename_i ts1 ds1 s1 h1
      have n2 := hE.next.ex hx
      refine wpIn_mono (hE.ex h1 (R := R) (by omega) h hp1 hok ht hN hd hF n) ?_
      rintro ex a1 w1 ⟨rfl, ν, g1, g2, g3, g4, g5⟩
      exact (hE.loop hx hR g4 hp1 hok g1 g2 g3 (hF.mono g5.le) n).mono fun _ _ _ hl => hl.trans g5
    · rename_i hne
      refine wpIn_mono (hE.ex hx hR h hp1 hok ht hN hd hF n) ?_
      rintro ex a1 w1 hl
      have : ex ≠ .normal := by
        rw [hl.1]
        intro he
        cases x with
        | normal => exact hne _ _ _ hx
        | exit id => cases he
        | ret => cases he
      cases ex with
      | normal => exact absurd rfl this
      | _ => exact hl
  | rangeFunc f ps c1 c2 =>
    simp only [prepC] at hp
    split at hp
    case h_1 => cases hp
    rename_i z hz
    split at hp
    case h_1 => cases hp
    rename_i p1 hp1
    split at hp
    case h_1 => cases hp
    rename_i p2 hp2
    cases hp
    simp only [okPC, Bool.and_eq_true] at hok
    simp only [exStep] at hx
    split at hx
    case h_2 => cases hx
    rename_i fv hv
    exact rangeA_sound hE hx hR h rfl hp1 hp2 hok.1.1 hok.1.2 hok.2 ht hN hd hF (evR_of ht _ _ _ hz hv) n
  | exit id =>
    cases hp; cases hx
    exact wpIn_exit ⟨rfl, μ, ht, hN, hd, h, Mv.refl h hR⟩
  | ret =>
    cases hp; cases hx
    exact wpIn_ret ⟨rfl, μ, ht, hN, hd, h, Mv.refl h hR⟩
  | _ => simp only [prepC] at hp; cases hp

theorem loop_sound {e : Eng} (hE : EngOk P e) {ro : Option Nat} {pc : PC} {ts ts' : Tr AV} {ds ds' : List Nat} {s s' : St} {x : AExit} (hx : exStep e ro (.loop pc) ts ds s = some (x, ts', ds', s'))
    {R : Nat} (hR : s'.next ≤ R) {μ : Place} {w : World} (h : HR P R μ s w) {c : Code} {N : Nat} (hp1 : prepC P c = some pc) (hok : okPC N pc = true) {a : Act} (ht : TR μ ts a.tmps) (hN : a.tmps.size = N) (hd : DR μ ds a.defers) {F : Fence} (hF : FenceOk μ ro F) (n : Nat) :
    LoopIn F n P c (Left P R μ s w N x ts' ds' s') a w := by
  refine LoopIn.step ?_
  simp only [exStep] at hx
  split at hx
  · rename_i ts1 ds1 s1 h1
    have n2 := hE.next.ex hx
    refine wpIn_mono (hE.ex h1 (R := R) (by omega) h hp1 hok ht hN hd hF n) ?_
    rintro ex a1 w1 ⟨rfl, ν, g1, g2, g3, g4, g5⟩
    exact (hE.loop hx hR g4 hp1 hok g1 g2 g3 (hF.mono g5.le) n).mono fun _ _ _ hl => hl.trans g5
  · rename_i hne
    refine wpIn_mono (hE.ex hx hR h hp1 hok ht hN hd hF n) ?_
    rintro ex a1 w1 hl
    have : ex ≠ .normal := by
      rw [hl.1]
      intro he
      cases x with
      | normal => exact hne _ _ _ hx
      | exit id => cases he
      | ret => cases he
    cases ex with
    | normal => exact absurd rfl this
    | _ => exact hl
end Go.Proofs.Ytjejgnbdlfkenaa.D
namespace Go.Proofs.Ytjejgnbdlfkenaa.D
noncomputable section
def noSums : Sums := fun _ => none
/-- An empty memory. -/
def St.empty : St := { heap := .lf, base := fun _ => none, next := 0 }
def isTrue : Option (AV × St) → Bool
  | some (.bool true, _) => true
  | _ => false
/-- What is known of a check that holds. -/
def aliveSum : List AV → St → Option (AV × St)
  | [], s => some (.bool true, s)
  | _ :: _, _ => none

def addSum (SM : Sums) (f : Nat) (g : List AV → St → Option (AV × St)) : Sums := fun k => if k = f then some g else SM k
def stp (n : Nat) : Nat :=
  match Nat.beq (n / 2147483648) 1 with
  | true => Nat.xor (n * 2 % 4294967296) 79764919
  | false => n * 2 % 4294967296

def stps : Nat → Nat → Nat
  | 0, n => n
  | k + 1, n => stps k (stp n)

def crcStep (s c : Nat) : Nat := stps 8 (Nat.xor s (c * 16777216))
def sumStep (args : List AV) (s : St) : Option (AV × St) :=
  match args with
  | [.int .u32 n, .int .u8 c] => if n < 0 ∨ c < 0 ∨ 4294967296 ≤ n ∨ 256 ≤ c then none else some (.int .u32 (crcStep n.toNat c.toNat : Nat), s)
  | _ => none
/-- Numbers left out. -/
def St.skip (s : St) (k : Nat) : St := { s with next := s.next + k }
end
end Go.Proofs.Ytjejgnbdlfkenaa.D
