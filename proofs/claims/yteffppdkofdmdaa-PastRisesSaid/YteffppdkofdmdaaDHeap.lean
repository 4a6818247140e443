/- The abstract machine's memory, and when the model's memory is one that it stands for. -/
import Derived.Test.YteffppdkofdmdaaDProg
import Derived.Laws.Sem
namespace Go.Proofs.Yteffppdkofdmdaa.D
noncomputable section

inductive AObj where
  | cells (vs : List AV) (loose ro : Bool) (esz : Nat)
  | map (es : List (AV × AV × Nat)) (clock : Nat)
  | miter (m : Option Nat) (since : Nat) (seen : List Nat) (last : Nat)
  | siter (s : ByteArray) (pos : Nat)
  | loop (state : LoopState) (pend : AExit) (ts : Tr AV) (params : List Nat) (assign body : PC) (defers : Nat)
  | defd

structure St where
  heap : Tr (Option AObj)
  base : Nat → Option AObj
  next : Nat

def St.get (s : St) (b : Nat) : Option AObj :=
  match s.heap.get b with
  | some o => o
  | none => s.base b
def St.put (s : St) (b : Nat) (o : AObj) : St := { s with heap := s.heap.set b (some o) }
def St.drop (s : St) (b : Nat) : St := { s with heap := s.heap.set b none }
def St.new (s : St) (o : AObj) : St := { s with heap := s.heap.set s.next (some o), next := s.next + 1 }

theorem St.get_put (s : St) (b c : Nat) (o : AObj) : (s.put b o).get c = if c = b then some o else s.get c := by
  unfold St.get St.put
  simp only [Tr.get_set]
  by_cases h : c = b <;> simp [h]
theorem St.get_drop (s : St) (b c : Nat) : (s.drop b).get c = if c = b then none else s.get c := by
  unfold St.get St.drop
  simp only [Tr.get_set]
  by_cases h : c = b <;> simp [h]
theorem St.get_new (s : St) (c : Nat) (o : AObj) : (s.new o).get c = if c = s.next then some o else s.get c := by
  unfold St.get St.new
  simp only [Tr.get_set]
  by_cases h : c = s.next <;> simp [h]
@[simp] theorem St.next_put (s : St) (b : Nat) (o : AObj) : (s.put b o).next = s.next := rfl
@[simp] theorem St.next_drop (s : St) (b : Nat) : (s.drop b).next = s.next := rfl
@[simp] theorem St.next_new (s : St) (o : AObj) : (s.new o).next = s.next + 1 := rfl

def jumpCode : AExit → Option Code
  | .normal => none
  | .exit id => some (.exit id)
  | .ret => some .ret

/-- The temporaries are what they stand for. -/
def TR (μ : Place) (ts : Tr AV) (tmps : Array Value) : Prop := ∀ t v, ts.get t = some v → ∃ c, tmps[t]? = some c ∧ conc μ v = some c

theorem TR.mono {μ ν : Place} {ts : Tr AV} {tmps : Array Value} (h : TR μ ts tmps) (l : μ.le ν) : TR ν ts tmps :=
  fun t v e => let ⟨c, h1, h2⟩ := h t v e; ⟨c, h1, conc_mono l v c h2⟩

def entryR (μ : Place) (x : AV × AV × Nat) (y : MapEntry) : Prop := conc μ x.1 = some y.key ∧ conc μ x.2.1 = some y.val ∧ x.2.2 = y.born

def optR (μ : Place) : Option Nat → Option Nat → Prop
  | none, m => m = none
  | some r, m => ∃ p, μ r = some p ∧ m = some p.1

/-- Entries, one beside the other. -/
def entriesR (μ : Place) : List (AV × AV × Nat) → List MapEntry → Prop
  | [], [] => True
  | x :: l, y :: m => entryR μ x y ∧ entriesR μ l m
  | _, _ => False

theorem entriesR_mono {μ ν : Place} (h : μ.le ν) : ∀ {l : List (AV × AV × Nat)} {m : List MapEntry}, entriesR μ l m → entriesR ν l m
  | [], [], _ => trivial
  | _ :: _, _ :: _, e => ⟨⟨conc_mono h _ _ e.1.1, conc_mono h _ _ e.1.2.1, e.1.2.2⟩, entriesR_mono h e.2⟩
  | [], _ :: _, e => e.elim
  | _ :: _, [], e => e.elim

variable (P : Program)

/-- What lies in the model's block. -/
def OR (μ : Place) (w : World) (b e : Nat) : AObj → Prop
  | .cells vs loose ro esz => ∃ (c : Array Value) (elem : TypeId) (fz : Nat × Nat) (xs rest : List Value), w.heap[b]? = some (.cells c elem fz) ∧ concs μ vs = some xs ∧
      c.toList = xs ++ rest ∧ rest.length = e * esz ∧ (loose = false → e = 0) ∧ (ro = false → ∀ i, i < c.size → ¬ (fz.1 ≤ i ∧ i < fz.2))
  | .map es clock => ∃ ces : Array MapEntry, w.heap[b]? = some (.map ces clock) ∧ entriesR μ es ces.toList
  | .miter m since seen last => ∃ m', optR μ m m' ∧ w.heap[b]? = some (.mapIter m' since seen.toArray last)
  | .siter s pos => w.heap[b]? = some (.stringIter s pos)
  | .loop st pend ts params assign body d => ∃ (L : Loop) (p : Nat × Nat), w.heap[b]? = some (.loop L) ∧ L.state = st ∧ L.pending = jumpCode pend ∧ TR μ ts L.tmps ∧
      L.params.toList = params ∧ prepC P L.assign = some assign ∧ prepC P L.body = some body ∧ μ d = some p ∧ L.defers = p.1 ∧
      okNats L.tmps.size params = true ∧ okPC L.tmps.size assign = true ∧ okPC L.tmps.size body = true
  | .defd => w.heap[b]? = some (.deferred (some []))

theorem OR.mono {P : Program} {μ ν : Place} (h : μ.le ν) {w w' : World} {b e : Nat} (hw : w'.heap[b]? = w.heap[b]?) {o : AObj} (ho : OR P μ w b e o) : OR P ν w' b e o := by
  cases o with
  | cells vs l r z =>
    obtain ⟨c, el, fz, xs, rest, h1, h2, h3⟩ := ho
    exact ⟨c, el, fz, xs, rest, hw.trans h1, concs_mono h _ _ h2, h3⟩
  | map es cl => obtain ⟨ces, h1, h2⟩ := ho; exact ⟨ces, hw.trans h1, entriesR_mono h h2⟩
  | miter m s n l =>
    obtain ⟨m', h1, h2⟩ := ho
    refine ⟨m', ?_, hw.trans h2⟩
    cases m with
    | none => exact h1
    | some r => obtain ⟨p, hp, e⟩ := h1; exact ⟨p, h _ _ hp, e⟩
  | siter s p => exact hw.trans ho
  | loop st pe ts ps a bo d =>
    obtain ⟨L, p, h1, h2, h3, h5, h6, h7, h8, h9, h10⟩ := ho
    exact ⟨L, p, hw.trans h1, h2, h3, h5.mono h, h6, h7, h8, h _ _ h9, h10⟩
  | defd => exact hw.trans ho

/-- 'R': numbers from R on may be given ahead to blocks that the abstract machine lays later. -/
structure HR (R : Nat) (μ : Place) (s : St) (w : World) : Prop where
  obj : ∀ b o, s.get b = some o → ∃ p, μ b = some p ∧ OR P μ w p.1 p.2 o
  inj : ∀ b c o o' p q, s.get b = some o → s.get c = some o' → μ b = some p → μ c = some q → p.1 = q.1 → b = c
  lt : ∀ b p, μ b = some p → p.1 < w.heap.size ∧ (b < s.next ∨ R ≤ b)
  dom : ∀ b o, s.get b = some o → b < s.next

/-- What has become of the model's memory between two moments. -/
structure Mv (μ : Place) (s : St) (w : World) (ν : Place) (s' : St) (w' : World) : Prop where
  le : μ.le ν
  os : w'.os = w.os
  output : w'.output = w.output
  tape : w'.tape = w.tape
  size : w.heap.size ≤ w'.heap.size
  next : s.next ≤ s'.next
  res : ∀ b p, μ b = some p → b < s.next ∨ s'.next ≤ b
  fresh : ∀ b p, ν b = some p → μ b = some p ∨ (s.next ≤ b ∧ b < s'.next ∧ (w.heap.size ≤ p.1 ∨ ∃ c q, c < s.next ∧ μ c = some q ∧ q.1 = p.1))
  frame : ∀ k, k < w.heap.size → (∀ b p, b < s.next → μ b = some p → p.1 ≠ k) → w'.heap[k]? = w.heap[k]?
  ro : ∀ b vs l e p, s.get b = some (.cells vs l true e) → μ b = some p → s'.get b = some (.cells vs l true e) ∧ w'.heap[p.1]? = w.heap[p.1]?

variable {P} {R : Nat}

theorem Mv.refl {μ : Place} {s : St} {w : World} (h : HR P R μ s w) (hR : s.next ≤ R) : Mv μ s w μ s w :=
  ⟨Place.le_refl μ, rfl, rfl, rfl, Nat.le_refl _, Nat.le_refl _, fun b p hb => (h.lt b p hb).2.imp id (Nat.le_trans hR), fun _ _ h => .inl h, fun _ _ _ => rfl, fun _ _ _ _ _ h _ => ⟨h, rfl⟩⟩

theorem Mv.trans {μ ν ξ : Place} {s s' s'' : St} {w w' w'' : World} (h : Mv μ s w ν s' w') (k : Mv ν s' w' ξ s'' w'') : Mv μ s w ξ s'' w'' := by
  refine ⟨Place.le_trans h.le k.le, k.os.trans h.os, k.output.trans h.output, k.tape.trans h.tape, Nat.le_trans h.size k.size, Nat.le_trans h.next k.next, ?_, ?_, ?_, ?_⟩
  · intro b p hb
    rcases h.res b p hb with h1 | h1
    · exact .inl h1
    · rcases k.res b p (h.le _ _ hb) with h2 | h2
      · omega
      · exact .inr h2
  · intro b p hb
    rcases k.fresh b p hb with hq | ⟨h1, h2, hq | ⟨c, q, hc1, hc, e⟩⟩
    · rcases h.fresh b p hq with h3 | ⟨h3, h4, h5⟩
      · exact .inl h3
      · exact .inr ⟨h3, Nat.lt_of_lt_of_le h4 k.next, h5⟩
    · exact .inr ⟨Nat.le_trans h.next h1, h2, .inl (Nat.le_trans h.size hq)⟩
    · refine .inr ⟨Nat.le_trans h.next h1, h2, ?_⟩
      rcases h.fresh c q hc with h3 | ⟨h3, h4, h5 | ⟨d, q', hd1, hd, e'⟩⟩
      · rcases h.res c q h3 with h4 | h4
        · exact .inr ⟨c, q, h4, h3, e⟩
        · omega
      · exact .inl (by omega)
      · exact .inr ⟨d, q', hd1, hd, e'.trans e⟩
  · intro i hi hn
    rw [k.frame i (Nat.lt_of_lt_of_le hi h.size) ?_, h.frame i hi hn]
    intro b p hb1 hb e
    rcases h.fresh b p hb with h3 | ⟨h3, h4, h5 | ⟨d, q', hd1, hd, e'⟩⟩
    · rcases h.res b p h3 with h4 | h4
      · exact hn _ _ h4 h3 e
      · omega
    · omega
    · exact hn _ _ hd1 hd (e'.trans e)
  · intro b vs l e p hs hp
    obtain ⟨h1, h2⟩ := h.ro b vs l e p hs hp
    obtain ⟨k1, k2⟩ := k.ro b vs l e p h1 (h.le _ _ hp)
    exact ⟨k1, k2.trans h2⟩

theorem HR.heap_eq {μ : Place} {s : St} {w w' : World} (h : HR P R μ s w) (e : w'.heap = w.heap) : HR P R μ s w' :=
  ⟨fun b o hb => let ⟨p, hp, ho⟩ := h.obj b o hb; ⟨p, hp, ho.mono (Place.le_refl _) (by rw [e])⟩, h.inj, fun b p hp => by rw [e]; exact h.lt b p hp, h.dom⟩

/-- A new block. -/
def Place.add (μ : Place) (b : Nat) (p : Nat × Nat) : Place := fun c => if c = b then some p else μ c

theorem HR.fresh_none {μ : Place} {s : St} {w : World} (h : HR P R μ s w) (hR : s.next + 1 ≤ R) : μ s.next = none := by
  cases e : μ s.next with
  | none => rfl
  | some p => have := (h.lt _ _ e).2; omega

theorem HR.get_lt {μ : Place} {s : St} {w : World} (h : HR P R μ s w) {b : Nat} {o : AObj} (hb : s.get b = some o) : b < s.next := h.dom b o hb

theorem HR.le_add {μ : Place} {s : St} {w : World} (h : HR P R μ s w) (hR : s.next + 1 ≤ R) (p : Nat × Nat) : μ.le (μ.add s.next p) := by
  intro b q hb
  unfold Place.add
  rw [if_neg]
  · exact hb
  · intro e; subst e; rw [h.fresh_none hR] at hb; cases hb

theorem World.push_old (w : World) (O : Obj) (k : Nat) (h : k < w.heap.size) (d : Nat) : ({ w with heap := w.heap.push O, drawn := d } : World).heap[k]? = w.heap[k]? := by
  show (w.heap.push O)[k]? = _
  rw [Array.getElem?_push, if_neg (by omega)]
theorem World.push_new (w : World) (O : Obj) (d : Nat) : ({ w with heap := w.heap.push O, drawn := d } : World).heap[w.heap.size]? = some O := by
  show (w.heap.push O)[w.heap.size]? = _
  simp

/-- A block that lies is taken up under the next number: one that is laid anew, or one to which that number was given ahead. -/
theorem HR.take {μ ν : Place} {s : St} {w w' : World} (h : HR P R μ s w) (hle : μ.le ν) (hν : ∀ b, b ≠ s.next → ν b = μ b) {q : Nat × Nat} (hq : ν s.next = some q) (hlt : q.1 < w'.heap.size) (hnew : ∀ b o p, s.get b = some o → μ b = some p → p.1 ≠ q.1)
    (hsz : w.heap.size ≤ w'.heap.size) (hold : ∀ b o p, s.get b = some o → μ b = some p → w'.heap[p.1]? = w.heap[p.1]?) (o : AObj) (ho : OR P ν w' q.1 q.2 o) : HR P R ν (s.new o) w' := by
  refine ⟨?_, ?_, ?_, ?_⟩
  · intro b x hb
    rw [St.get_new] at hb
    by_cases e' : b = s.next
    · rw [if_pos e'] at hb; cases hb
      exact ⟨q, by rw [e']; exact hq, ho⟩
    · rw [if_neg e'] at hb
      obtain ⟨p, hp, hx⟩ := h.obj b x hb
      exact ⟨p, hle _ _ hp, hx.mono hle (hold b x p hb hp)⟩
  · intro b c x y p r hb hc hp hr epq
    rw [St.get_new] at hb hc
    have old : ∀ b x p, (if b = s.next then some o else s.get b) = some x → ν b = some p → b ≠ s.next → s.get b = some x ∧ μ b = some p := by
      intro b x p h1 h2 h3
      rw [if_neg h3] at h1
      rw [hν b h3] at h2
      exact ⟨h1, h2⟩
    by_cases eb : b = s.next <;> by_cases ec : c = s.next
    · rw [eb, ec]
    · obtain ⟨hy, hr'⟩ := old c y r hc hr ec
      rw [eb, hq] at hp; cases hp
      exact absurd epq.symm (hnew c _ _ hy hr')
    · obtain ⟨hy, hp'⟩ := old b x p hb hp eb
      rw [ec, hq] at hr; cases hr
      exact absurd epq (hnew b _ _ hy hp')
    · obtain ⟨hx, hp'⟩ := old b x p hb hp eb
      obtain ⟨hy, hr'⟩ := old c y r hc hr ec
      exact h.inj b c _ _ p r hx hy hp' hr' epq
  · intro b p hp
    by_cases eb : b = s.next
    · rw [eb, hq] at hp; cases hp
      exact ⟨hlt, .inl (by simp [eb])⟩
    · rw [hν b eb] at hp
      have := h.lt _ _ hp
      refine ⟨by omega, ?_⟩
      simp; omega
  · intro b x hb
    rw [St.get_new] at hb
    by_cases eb : b = s.next
    · simp [eb]
    · rw [if_neg eb] at hb
      have := h.dom b x hb
      simp; omega

/-- A block is laid. -/
theorem HR.new {μ : Place} {s : St} {w : World} (h : HR P R μ s w) (hR : s.next + 1 ≤ R) (o : AObj) (O : Obj) (e d : Nat)
    (ho : OR P (μ.add s.next (w.heap.size, e)) { w with heap := w.heap.push O, drawn := d } w.heap.size e o) :
    HR P R (μ.add s.next (w.heap.size, e)) (s.new o) { w with heap := w.heap.push O, drawn := d } ∧
    Mv μ s w (μ.add s.next (w.heap.size, e)) (s.new o) { w with heap := w.heap.push O, drawn := d } := by
  have hle := h.le_add hR (w.heap.size, e)
  refine ⟨h.take hle (fun b hb => by simp [Place.add, hb]) (q := (w.heap.size, e)) (by simp [Place.add]) (by simp) ?_ (by simp) ?_ o ho, ⟨hle, rfl, rfl, rfl, by simp, by simp, ?_, ?_, ?_, ?_⟩⟩
  · intro b x p _ hp e'
    have := (h.lt _ _ hp).1
    simp at e'
    omega
  · intro b x p _ hp
    exact World.push_old w O p.1 (h.lt _ _ hp).1 d
  · intro b p hp
    have := (h.lt _ _ hp).2
    simp
    omega
  · intro b p hp
    simp only [Place.add] at hp
    by_cases eb : b = s.next
    · rw [if_pos eb] at hp; cases hp
      exact .inr ⟨by omega, by simp [eb], .inl (Nat.le_refl _)⟩
    · rw [if_neg eb] at hp; exact .inl hp
  · intro k hk _
    exact World.push_old w O k hk d
  · intro b vs l z p hb hp
    refine ⟨?_, World.push_old w O p.1 (h.lt _ _ hp).1 d⟩
    rw [St.get_new, if_neg (by have := h.get_lt hb; omega)]
    exact hb

/-- A block is turned. -/
theorem HR.turn {μ : Place} {s : St} {w w' : World} (h : HR P R μ s w) (hR : s.next ≤ R) {b : Nat} {o o' : AObj} {p : Nat × Nat} (hb : s.get b = some o) (hp : μ b = some p)
    (hro : ∀ vs l e, o ≠ .cells vs l true e) (ho : OR P μ w' p.1 p.2 o')
    (hos : w'.os = w.os) (hout : w'.output = w.output) (htape : w'.tape = w.tape) (hsize : w'.heap.size = w.heap.size) (hk : ∀ k, k ≠ p.1 → w'.heap[k]? = w.heap[k]?) :
    HR P R μ (s.put b o') w' ∧ Mv μ s w μ (s.put b o') w' := by
  refine ⟨⟨?_, ?_, ?_, ?_⟩, ⟨Place.le_refl μ, hos, hout, htape, by omega, by simp, fun c q hq => (h.lt c q hq).2.imp id (Nat.le_trans hR), fun _ q hq => .inl hq, ?_, ?_⟩⟩
  · intro c x hc
    rw [St.get_put] at hc
    by_cases e : c = b
    · rw [if_pos e] at hc; cases hc; subst e; exact ⟨p, hp, ho⟩
    · rw [if_neg e] at hc
      obtain ⟨q, hq, hx⟩ := h.obj c x hc
      refine ⟨q, hq, hx.mono (Place.le_refl _) (hk q.1 ?_)⟩
      intro e'
      exact e (h.inj c b _ _ q p hc hb hq hp e')
  · intro c d x y q r hc hd hq hr e
    rw [St.get_put] at hc hd
    have old : ∀ c x, (if c = b then some o' else s.get c) = some x → ∃ y, s.get c = some y := by
      intro c x hx
      by_cases e : c = b
      · subst e; exact ⟨o, hb⟩
      · rw [if_neg e] at hx; exact ⟨x, hx⟩
    obtain ⟨x', hx'⟩ := old c x hc
    obtain ⟨y', hy'⟩ := old d y hd
    exact h.inj c d _ _ q r hx' hy' hq hr e
  · intro c q hq
    have := h.lt c q hq
    simp; omega
  · intro c x hc
    rw [St.get_put] at hc
    by_cases e : c = b
    · subst e; exact h.dom c o hb
    · rw [if_neg e] at hc; exact h.dom c x hc
  · intro k _ hn
    exact hk k (fun e => hn b p (h.dom b o hb) hp e.symm)
  · intro c vs l e q hc hq
    have hne : c ≠ b := by
      intro e'; subst e'; rw [hb] at hc; cases hc; exact hro _ _ _ rfl
    refine ⟨by rw [St.get_put, if_neg hne]; exact hc, hk q.1 ?_⟩
    intro e'
    exact hne (h.inj c b _ _ q p hc hb hq hp e')

/-- Nothing may be asked of a block any more. -/
theorem HR.drop {μ : Place} {s : St} {w : World} (h : HR P R μ s w) (hR : s.next ≤ R) {b : Nat} {o : AObj} (hb : s.get b = some o) (hro : ∀ vs l e, o ≠ .cells vs l true e) :
    HR P R μ (s.drop b) w ∧ Mv μ s w μ (s.drop b) w := by
  have old : ∀ c x, (s.drop b).get c = some x → s.get c = some x ∧ c ≠ b := by
    intro c x hc
    rw [St.get_drop] at hc
    by_cases e : c = b
    · rw [if_pos e] at hc; cases hc
    · rw [if_neg e] at hc; exact ⟨hc, e⟩
  refine ⟨⟨fun c x hc => h.obj c x (old c x hc).1, fun c d x y q r hc hd => h.inj c d x y q r (old c x hc).1 (old d y hd).1, h.lt, fun c x hc => h.dom c x (old c x hc).1⟩,
    ⟨Place.le_refl μ, rfl, rfl, rfl, Nat.le_refl _, Nat.le_refl _, fun c q hq => (h.lt c q hq).2.imp id (Nat.le_trans hR), fun _ q hq => .inl hq, fun _ _ _ => rfl, ?_⟩⟩
  intro c vs l e q hc hq
  refine ⟨?_, rfl⟩
  rw [St.get_drop, if_neg]
  · exact hc
  · intro e'; subst e'; rw [hb] at hc; cases hc; exact hro _ _ _ rfl

/-- A block goes on under another number: nothing may be asked of the elder one any more. -/
theorem HR.alias {μ : Place} {s : St} {w w' : World} (h : HR P R μ s w) (hR : s.next + 1 ≤ R) {b : Nat} {o o' : AObj} {p : Nat × Nat} {e : Nat} (hb : s.get b = some o) (hp : μ b = some p)
    (hro : ∀ vs l e, o ≠ .cells vs l true e) (ho : OR P (μ.add s.next (p.1, e)) w' p.1 e o')
    (hos : w'.os = w.os) (hout : w'.output = w.output) (htape : w'.tape = w.tape) (hsize : w'.heap.size = w.heap.size) (hk : ∀ k, k ≠ p.1 → w'.heap[k]? = w.heap[k]?) :
    HR P R (μ.add s.next (p.1, e)) ((s.drop b).new o') w' ∧ Mv μ s w (μ.add s.next (p.1, e)) ((s.drop b).new o') w' := by
  have hle := h.le_add hR (p.1, e)
  obtain ⟨hd, _⟩ := h.drop (by omega) hb hro
  have other : ∀ c x q, (s.drop b).get c = some x → μ c = some q → q.1 ≠ p.1 := by
    intro c x q hc hq e'
    rw [St.get_drop] at hc
    by_cases ec : c = b
    · rw [if_pos ec] at hc; cases hc
    · rw [if_neg ec] at hc
      exact ec (h.inj c b _ _ q p hc hb hq hp e')
  refine ⟨hd.take hle (fun c hc => by simp only [Place.add]; rw [if_neg (show c ≠ s.next from hc)]) (q := (p.1, e)) (by simp [Place.add]) (by rw [hsize]; exact (h.lt _ _ hp).1) other (by omega) (fun c x q hc hq => hk q.1 (other c x q hc hq)) o' ho,
    ⟨hle, hos, hout, htape, by omega, by simp, ?_, ?_, ?_, ?_⟩⟩
  · intro c q hq
    have := (h.lt _ _ hq).2
    simp
    omega
  · intro c q hq
    simp only [Place.add] at hq
    by_cases ec : c = s.next
    · rw [if_pos ec] at hq; cases hq
      exact .inr ⟨by omega, by simp [ec], .inr ⟨b, p, h.dom b o hb, hp, rfl⟩⟩
    · rw [if_neg ec] at hq; exact .inl hq
  · intro k _ hn
    exact hk k (fun e => hn b p (h.dom b o hb) hp e.symm)
  · intro c vs l z q hc hq
    have hne : c ≠ b := by
      intro e'; subst e'; rw [hb] at hc; cases hc; exact hro _ _ _ rfl
    have hcn := h.get_lt hc
    refine ⟨?_, hk q.1 (fun e' => hne (h.inj c b _ _ q p hc hb hq hp e'))⟩
    rw [St.get_new, if_neg (by simp; omega), St.get_drop, if_neg hne]
    exact hc

/-- A cell reads as what it stands for. -/
theorem HR.cell {μ : Place} {s : St} {w : World} (h : HR P R μ s w) {b : Nat} {vs : List AV} {l r : Bool} {z : Nat} (hb : s.get b = some (.cells vs l r z)) {p : Nat × Nat} (hp : μ b = some p)
    {i : Nat} {v : AV} (hv : vs[i]? = some v) : ∃ c, w.cell? ⟨p.1, i, none⟩ = some c ∧ conc μ v = some c := by
  obtain ⟨q, hq, c, el, fz, xs, rest, h1, h2, h3, _⟩ := h.obj _ _ hb
  rw [hp] at hq; cases hq
  obtain ⟨x, hx, hc⟩ := concs_get h2 i v hv
  refine ⟨x, ?_, hc⟩
  have hlt : i < xs.length := (List.getElem?_eq_some_iff.1 hx).1
  simp only [World.cell?, h1, Option.isSome_none, Bool.false_eq_true, if_false]
  rw [← Array.getElem?_toList, h3, List.getElem?_append_left hlt, hx]
end
end Go.Proofs.Yteffppdkofdmdaa.D
