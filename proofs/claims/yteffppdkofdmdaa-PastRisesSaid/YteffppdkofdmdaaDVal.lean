/- Values of an abstract machine that follows the model, whatever the tape says: numbers of blocks are its own, a row that append made has a capacity that is not known. Plain definitions and laws; no program. -/
import GoSem.Core.World
namespace Go.Proofs.Yteffppdkofdmdaa.D

/-- A store by numbers. -/
inductive Tr (α : Type) where
  | lf : Tr α
  | nd (l : Tr α) (v : Option α) (r : Tr α) : Tr α

namespace Tr
variable {α : Type}

noncomputable def get (t : Tr α) : Nat → Option α :=
  Tr.rec (motive := fun _ => Nat → Option α) (fun _ => none)
    (fun _ v _ gl gr k => match k with
      | 0 => v
      | k + 1 => match Nat.beq (k % 2) 0 with
        | true => gl (k / 2)
        | false => gr (k / 2)) t

theorem get_lf (k : Nat) : (Tr.lf : Tr α).get k = none := rfl
theorem get_nd_zero (l : Tr α) (v : Option α) (r : Tr α) : (Tr.nd l v r).get 0 = v := rfl
theorem get_nd_succ (l : Tr α) (v : Option α) (r : Tr α) (k : Nat) : (Tr.nd l v r).get (k + 1) = match Nat.beq (k % 2) 0 with | true => l.get (k / 2) | false => r.get (k / 2) := rfl

/-- A store of one. -/
noncomputable def one (v : Option α) (n : Nat) : Nat → Tr α :=
  Nat.rec (motive := fun _ => Nat → Tr α) (fun _ => .lf)
    (fun _ ih k => match k with
      | 0 => .nd .lf v .lf
      | k + 1 => match Nat.beq (k % 2) 0 with
        | true => .nd (ih (k / 2)) none .lf
        | false => .nd .lf none (ih (k / 2))) n

theorem one_zero (v : Option α) (n : Nat) : one v (n + 1) 0 = .nd .lf v .lf := rfl
theorem one_succ (v : Option α) (n k : Nat) : one v (n + 1) (k + 1) = match Nat.beq (k % 2) 0 with | true => .nd (one v n (k / 2)) none .lf | false => .nd .lf none (one v n (k / 2)) := rfl

noncomputable def put (v : Option α) (t : Tr α) : Nat → Tr α :=
  Tr.rec (motive := fun _ => Nat → Tr α) (fun k => one v (k + 1) k)
    (fun l x r pl pr k => match k with
      | 0 => .nd l v r
      | k + 1 => match Nat.beq (k % 2) 0 with
        | true => .nd (pl (k / 2)) x r
        | false => .nd l x (pr (k / 2))) t

theorem put_lf (v : Option α) (k : Nat) : put v .lf k = one v (k + 1) k := rfl
theorem put_nd_zero (v : Option α) (l : Tr α) (x : Option α) (r : Tr α) : put v (.nd l x r) 0 = .nd l v r := rfl
theorem put_nd_succ (v : Option α) (l : Tr α) (x : Option α) (r : Tr α) (k : Nat) : put v (.nd l x r) (k + 1) = match Nat.beq (k % 2) 0 with | true => .nd (put v l (k / 2)) x r | false => .nd l x (put v r (k / 2)) := rfl

noncomputable def set (t : Tr α) (k : Nat) (v : α) : Tr α := put (some v) t k
noncomputable def unset (t : Tr α) (k : Nat) : Tr α := put none t k

theorem beq_mod (k : Nat) : Nat.beq (k % 2) 0 = decide (k % 2 = 0) := by
  rcases Nat.mod_two_eq_zero_or_one k with h | h <;> rw [h] <;> rfl

theorem get_one (v : Option α) : ∀ (n k j : Nat), k < n → (one v n k).get j = if j = k then v else none := by
  intro n
  induction n with
  | zero => intro k j h; omega
  | succ n ih =>
    intro k j h
    cases k with
    | zero => cases j with
      | zero => rfl
      | succ j =>
        rw [if_neg (by omega)]
        simp only [one_zero, get_nd_succ]
        split <;> rfl
    | succ k =>
      have hk : k / 2 < n := by omega
      simp only [one_succ, beq_mod]
      by_cases hp : k % 2 = 0
      · simp only [hp, decide_true]
        cases j with
        | zero => rw [get_nd_zero, if_neg (by omega)]
        | succ j =>
          simp only [get_nd_succ, beq_mod]
          by_cases hj : j % 2 = 0
          · simp only [hj, decide_true]
            rw [ih _ _ hk]
            by_cases e : j / 2 = k / 2
            · rw [if_pos e, if_pos (by omega)]
            · rw [if_neg e, if_neg (by omega)]
          · simp only [hj, decide_false]
            rw [get_lf, if_neg (by omega)]
      · simp only [hp, decide_false]
        cases j with
        | zero => rw [get_nd_zero, if_neg (by omega)]
        | succ j =>
          simp only [get_nd_succ, beq_mod]
          by_cases hj : j % 2 = 0
          · simp only [hj, decide_true]
            rw [get_lf, if_neg (by omega)]
          · simp only [hj, decide_false]
            rw [ih _ _ hk]
            by_cases e : j / 2 = k / 2
            · rw [if_pos e, if_pos (by omega)]
            · rw [if_neg e, if_neg (by omega)]

theorem get_put (v : Option α) : ∀ (t : Tr α) (k j : Nat), (put v t k).get j = if j = k then v else t.get j := by
  intro t
  induction t with
  | lf => intro k j; rw [put_lf, get_one v _ _ _ (by omega), get_lf]
  | nd l x r ihl ihr =>
    intro k j
    cases k with
    | zero => cases j with
      | zero => rfl
      | succ j => rw [if_neg (by omega)]; rfl
    | succ k =>
      simp only [put_nd_succ, beq_mod]
      by_cases hp : k % 2 = 0
      · simp only [hp, decide_true]
        cases j with
        | zero => rw [get_nd_zero, if_neg (by omega)]; rfl
        | succ j =>
          simp only [get_nd_succ, beq_mod]
          by_cases hj : j % 2 = 0
          · simp only [hj, decide_true]
            rw [ihl]
            by_cases e : j / 2 = k / 2
            · rw [if_pos e, if_pos (by omega)]
            · rw [if_neg e, if_neg (by omega)]
          · simp only [hj, decide_false]
            rw [if_neg (by omega)]
      · simp only [hp, decide_false]
        cases j with
        | zero => rw [get_nd_zero, if_neg (by omega)]; rfl
        | succ j =>
          simp only [get_nd_succ, beq_mod]
          by_cases hj : j % 2 = 0
          · simp only [hj, decide_true]
            rw [if_neg (by omega)]
          · simp only [hj, decide_false]
            rw [ihr]
            by_cases e : j / 2 = k / 2
            · rw [if_pos e, if_pos (by omega)]
            · rw [if_neg e, if_neg (by omega)]

theorem get_set (t : Tr α) (k j : Nat) (v : α) : (t.set k v).get j = if j = k then some v else t.get j := get_put _ _ _ _
theorem get_unset (t : Tr α) (k j : Nat) : (t.unset k).get j = if j = k then none else t.get j := get_put _ _ _ _
end Tr

/-- Abstract values. -/
inductive AV where
  | bool (b : Bool)
  | int (k : IntKind) (n : Int)
  | str (s : ByteArray)
  | ptr (b o : Nat)
  | nilPtr
  | slice (b o len cap : Nat) (loose : Bool)
  | nilSlice
  | tail (b o adv : Nat)
  | map (r : Nat)
  | nilMap
  | fn (f : Fn) (first captured : List AV)
  | yld (r : Nat)
  | nilFn
  | iface (t : TypeId) (v : AV)
  | nilIface
  | agg (l : List AV)
  | tup (l : List AV)
  | raw (v : Value)

/-- Where abstract blocks lie, and by how many elements their capacity is greater than told. -/
abbrev Place := Nat → Option (Nat × Nat)

def Fn.plain : Fn → Bool
  | .yield _ => false
  | _ => true

/-- May a value be left as it is, unread? -/
def rawOk : Value → Bool
  | .agg _ | .tuple _ => false
  | _ => true

mutual
/-- The value that an abstract one stands for. -/
def conc (μ : Place) : AV → Option Value
  | .bool b => some (.bool b)
  | .int k n => some (.int k n)
  | .str s => some (.string s)
  | .ptr b o => (μ b).map fun p => .pointer (some ⟨p.1, o, none⟩)
  | .nilPtr => some (.pointer none)
  | .slice b o len cap loose => (μ b).map fun p => .slice (some ⟨p.1, o, none⟩) len (if loose then cap + p.2 else cap)
  | .nilSlice => some (.slice none 0 0)
  | .tail b o adv => (μ b).map fun p => .slice (some ⟨p.1, if p.2 = 0 then o else o + adv, none⟩) 0 p.2
  | .map r => (μ r).map fun p => .map (some p.1)
  | .nilMap => some (.map none)
  | .fn f first captured => if Fn.plain f then
      (concs μ first).bind fun x => (concs μ captured).map fun y => .func f x.toArray y.toArray else none
  | .yld r => (μ r).map fun p => .func (.yield p.1) #[] #[]
  | .nilFn => some .nilFunc
  | .iface t v => (conc μ v).map fun x => .iface t x
  | .nilIface => some .nilIface
  | .agg l => (concs μ l).map fun x => .agg x.toArray
  | .tup l => (concs μ l).map fun x => .tuple x.toArray
  | .raw v => some v
def concs (μ : Place) : List AV → Option (List Value)
  | [] => some []
  | v :: r => (conc μ v).bind fun x => (concs μ r).map fun y => x :: y
end

def Place.le (μ ν : Place) : Prop := ∀ b p, μ b = some p → ν b = some p
theorem Place.le_refl (μ : Place) : μ.le μ := fun _ _ h => h
theorem Place.le_trans {a b c : Place} (h : a.le b) (k : b.le c) : a.le c := fun x p e => k x p (h x p e)

mutual
theorem conc_mono {μ ν : Place} (h : μ.le ν) : ∀ (v : AV) (x : Value), conc μ v = some x → conc ν v = some x
  | .bool _, _, e => e
  | .int _ _, _, e => e
  | .str _, _, e => e
  | .nilPtr, _, e => e
  | .nilSlice, _, e => e
  | .nilMap, _, e => e
  | .nilFn, _, e => e
  | .nilIface, _, e => e
  | .raw _, _, e => e
  | .ptr b o, x, e => by
    simp only [conc, Option.map_eq_some_iff] at e ⊢
    obtain ⟨p, hp, e⟩ := e; exact ⟨p, h _ _ hp, e⟩
  | .slice b o l c z, x, e => by
    simp only [conc, Option.map_eq_some_iff] at e ⊢
    obtain ⟨p, hp, e⟩ := e; exact ⟨p, h _ _ hp, e⟩
  | .tail b o a, x, e => by
    simp only [conc, Option.map_eq_some_iff] at e ⊢
    obtain ⟨p, hp, e⟩ := e; exact ⟨p, h _ _ hp, e⟩
  | .map r, x, e => by
    simp only [conc, Option.map_eq_some_iff] at e ⊢
    obtain ⟨p, hp, e⟩ := e; exact ⟨p, h _ _ hp, e⟩
  | .yld r, x, e => by
    simp only [conc, Option.map_eq_some_iff] at e ⊢
    obtain ⟨p, hp, e⟩ := e; exact ⟨p, h _ _ hp, e⟩
  | .fn f a c, x, e => by
    simp only [conc] at e ⊢
    split at e
    · rename_i hf
      rw [if_pos hf]
      simp only [Option.bind_eq_some_iff, Option.map_eq_some_iff] at e ⊢
      obtain ⟨y, hy, z, hz, e⟩ := e
      exact ⟨y, concs_mono h a y hy, z, concs_mono h c z hz, e⟩
    · cases e
  | .iface t v, x, e => by
    simp only [conc, Option.map_eq_some_iff] at e ⊢
    obtain ⟨y, hy, e⟩ := e; exact ⟨y, conc_mono h v y hy, e⟩
  | .agg l, x, e => by
    simp only [conc, Option.map_eq_some_iff] at e ⊢
    obtain ⟨y, hy, e⟩ := e; exact ⟨y, concs_mono h l y hy, e⟩
  | .tup l, x, e => by
    simp only [conc, Option.map_eq_some_iff] at e ⊢
    obtain ⟨y, hy, e⟩ := e; exact ⟨y, concs_mono h l y hy, e⟩
theorem concs_mono {μ ν : Place} (h : μ.le ν) : ∀ (l : List AV) (x : List Value), concs μ l = some x → concs ν l = some x
  | [], _, e => e
  | v :: r, x, e => by
    simp only [concs, Option.bind_eq_some_iff, Option.map_eq_some_iff] at e ⊢
    obtain ⟨y, hy, z, hz, e⟩ := e
    exact ⟨y, conc_mono h v y hy, z, concs_mono h r z hz, e⟩
end

theorem concs_length {μ : Place} : ∀ {l : List AV} {x : List Value}, concs μ l = some x → x.length = l.length
  | [], x, e => by simp only [concs, Option.some.injEq] at e; subst e; rfl
  | v :: r, x, e => by
    simp only [concs, Option.bind_eq_some_iff, Option.map_eq_some_iff] at e
    obtain ⟨y, _, z, hz, rfl⟩ := e
    simp [concs_length hz]

theorem concs_get {μ : Place} : ∀ {l : List AV} {x : List Value}, concs μ l = some x → ∀ (i : Nat) (v : AV), l[i]? = some v → ∃ c, x[i]? = some c ∧ conc μ v = some c
  | [], _, _, i, v, h => by simp at h
  | v :: r, x, e, i, u, h => by
    simp only [concs, Option.bind_eq_some_iff, Option.map_eq_some_iff] at e
    obtain ⟨y, hy, z, hz, rfl⟩ := e
    cases i with
    | zero => simp only [List.getElem?_cons_zero, Option.some.injEq] at h; subst h; exact ⟨y, by simp, hy⟩
    | succ i => simp only [List.getElem?_cons_succ] at h; obtain ⟨c, hc, h'⟩ := concs_get hz i u h; exact ⟨c, by simpa using hc, h'⟩

theorem concs_get' {μ : Place} : ∀ {l : List AV} {x : List Value}, concs μ l = some x → ∀ (i : Nat) (c : Value), x[i]? = some c → ∃ v, l[i]? = some v ∧ conc μ v = some c := by
  intro l x h i c hc
  have hlt : i < l.length := by rw [← concs_length h]; exact (List.getElem?_eq_some_iff.1 hc).1
  obtain ⟨c', h1, h2⟩ := concs_get h i l[i] (List.getElem?_eq_getElem hlt)
  rw [hc] at h1; cases h1
  exact ⟨_, List.getElem?_eq_getElem hlt, h2⟩

theorem concs_append {μ : Place} : ∀ {l m : List AV} {x y : List Value}, concs μ l = some x → concs μ m = some y → concs μ (l ++ m) = some (x ++ y)
  | [], m, x, y, e, f => by simp only [concs, Option.some.injEq] at e; subst e; simpa using f
  | v :: r, m, x, y, e, f => by
    simp only [concs, Option.bind_eq_some_iff, Option.map_eq_some_iff] at e
    obtain ⟨u, hu, z, hz, rfl⟩ := e
    simp only [List.cons_append, concs, Option.bind_eq_some_iff, Option.map_eq_some_iff]
    exact ⟨u, hu, _, concs_append hz f, rfl⟩

theorem concs_take {μ : Place} : ∀ {l : List AV} {x : List Value}, concs μ l = some x → ∀ n, concs μ (l.take n) = some (x.take n)
  | [], x, e, n => by simp only [concs, Option.some.injEq] at e; subst e; simp [concs]
  | v :: r, x, e, n => by
    simp only [concs, Option.bind_eq_some_iff, Option.map_eq_some_iff] at e
    obtain ⟨u, hu, z, hz, rfl⟩ := e
    cases n with
    | zero => simp [concs]
    | succ n => simp only [List.take_succ_cons, concs, Option.bind_eq_some_iff, Option.map_eq_some_iff]; exact ⟨u, hu, _, concs_take hz n, rfl⟩

theorem concs_drop {μ : Place} : ∀ {l : List AV} {x : List Value}, concs μ l = some x → ∀ n, concs μ (l.drop n) = some (x.drop n)
  | [], x, e, n => by simp only [concs, Option.some.injEq] at e; subst e; simp [concs]
  | v :: r, x, e, n => by
    have e' := e
    simp only [concs, Option.bind_eq_some_iff, Option.map_eq_some_iff] at e
    obtain ⟨u, hu, z, hz, rfl⟩ := e
    cases n with
    | zero => simpa using e'
    | succ n => simp only [List.drop_succ_cons]; exact concs_drop hz n

theorem concs_set {μ : Place} : ∀ {l : List AV} {x : List Value}, concs μ l = some x → ∀ (i : Nat) {v : AV} {c : Value}, conc μ v = some c → concs μ (l.set i v) = some (x.set i c)
  | [], x, e, i, v, c, h => by simp only [concs, Option.some.injEq] at e; subst e; simp [concs]
  | a :: r, x, e, i, v, c, h => by
    simp only [concs, Option.bind_eq_some_iff, Option.map_eq_some_iff] at e
    obtain ⟨u, hu, z, hz, rfl⟩ := e
    cases i with
    | zero => simp only [List.set_cons_zero, concs, Option.bind_eq_some_iff, Option.map_eq_some_iff]; exact ⟨c, h, z, hz, rfl⟩
    | succ i => simp only [List.set_cons_succ, concs, Option.bind_eq_some_iff, Option.map_eq_some_iff]; exact ⟨u, hu, _, concs_set hz i h, rfl⟩

theorem concs_replicate {μ : Place} (n : Nat) {v : AV} {c : Value} (h : conc μ v = some c) : concs μ (List.replicate n v) = some (List.replicate n c) := by
  induction n with
  | zero => simp [concs]
  | succ n ih => simp only [List.replicate_succ, concs, h, ih, Option.bind_some, Option.map_some]

/-- Is it the value of one cell? -/
def AV.cell : AV → Bool
  | .agg _ | .tup _ => false
  | .raw v => rawOk v
  | _ => true

def AV.cells : AV → List AV
  | .agg l => l
  | .raw v => v.cells.toList.map .raw
  | v => [v]

theorem concs_raw (μ : Place) : ∀ l : List Value, concs μ (l.map .raw) = some l
  | [] => rfl
  | v :: r => by simp [concs, conc, concs_raw μ r]

theorem conc_cells {μ : Place} {v : AV} {x : Value} (h : conc μ v = some x) : concs μ v.cells = some x.cells.toList := by
  cases v with
  | agg l =>
    simp only [conc, Option.map_eq_some_iff] at h
    obtain ⟨y, hy, rfl⟩ := h
    simpa [AV.cells, Value.cells] using hy
  | fn f a c =>
    have h' := h
    simp only [conc] at h
    split at h
    · simp only [Option.bind_eq_some_iff, Option.map_eq_some_iff] at h
      obtain ⟨y, _, z, _, rfl⟩ := h
      simp [AV.cells, Value.cells, concs, h']
    · cases h
  | tup l =>
    have h' := h
    simp only [conc, Option.map_eq_some_iff] at h
    obtain ⟨y, _, rfl⟩ := h
    simp [AV.cells, Value.cells, concs, h']
  | raw v =>
    simp only [conc, Option.some.injEq] at h
    subst h
    exact concs_raw μ _
  | _ =>
    have h' := h
    simp only [conc, Option.map_eq_some_iff, Option.some.injEq] at h
    first
      | (subst h; simp [AV.cells, Value.cells, concs, conc])
      | (obtain ⟨p, _, rfl⟩ := h; simp [AV.cells, Value.cells, concs, h'])

theorem conc_cell {μ : Place} {v : AV} {x : Value} (h : conc μ v = some x) (hc : v.cell = true) : ∀ l, x ≠ .agg l ∧ x ≠ .tuple l := by
  intro l
  cases v with
  | agg l => simp [AV.cell] at hc
  | tup l => simp [AV.cell] at hc
  | raw v =>
    simp only [conc, Option.some.injEq] at h
    subst h
    cases v <;> first | (simp [AV.cell, rawOk] at hc; done) | exact ⟨by simp, by simp⟩
  | fn f a c =>
    simp only [conc] at h
    split at h
    · simp only [Option.bind_eq_some_iff, Option.map_eq_some_iff] at h
      obtain ⟨y, _, z, _, rfl⟩ := h
      exact ⟨by simp, by simp⟩
    · cases h
  | _ =>
    simp only [conc, Option.map_eq_some_iff, Option.some.injEq] at h
    first
      | (subst h; exact ⟨by simp, by simp⟩)
      | (obtain ⟨p, _, rfl⟩ := h; exact ⟨by simp, by simp⟩)
end Go.Proofs.Yteffppdkofdmdaa.D
