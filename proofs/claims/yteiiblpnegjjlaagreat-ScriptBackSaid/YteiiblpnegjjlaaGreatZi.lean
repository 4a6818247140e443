/- The memory that a law finds, as the abstract machine's; and what its arguments hold, by their types. Plain laws; no program.
A law's row, of a run of the abstract machine over what the law finds. Plain laws; no program.
Slices that came in: what is read of them. Plain laws; no program.
Loops over functions: rules for runs with unknown values. Plain laws; no program.
Whatever the abstract machine does: all that lies has a number that was given out. Plain laws; no program.
A law's run, where all that lies has a number that was given out. Plain laws; no program.
What is known of a few functions of the program: the sum behind a byte.
Code that may be left in several ways: what holds of all of them; loops over maps. Plain laws; no program.
The functions that are run, as the abstract machine's: that they are. Printed by a program.
The functions that are run, as the abstract machine's: that they are. Printed by a program.
The functions that are run, as the abstract machine's: that they are. Printed by a program.
The table of the functions that are run. Printed by a program.
The base machine of this seat: its functions that are run, and what is known of the sum's step. Printed by a program. -/
import Derived.Test.YteiiblpnegjjlaaGreatZh
import GoSem.ClaimChange
import Derived.Carry
import Derived.Maps.RangeRun
import Derived.Test.YteiiblpnegjjlaaGreatProg
import Derived.KernelRfl
namespace Go.Proofs.YteiiblpnegjjlaaGreat.D
noncomputable section
open Go.RowKit
variable {P : Program}

def isCells (w : World) (b : Nat) : Bool :=
  match w.heap[b]? with
  | some (.cells ..) => true
  | _ => false

/-- A value of the memory that a law finds; what isn't read stays as it is. -/
def absA (w : World) (v : Value) : AV :=
  match v with
  | .bool b => .bool b
  | .int k n => .int k n
  | .string s => .str s
  | .pointer none => .nilPtr
  | .pointer (some ⟨b, o, none⟩) => if isCells w b then .ptr b o else .raw (.pointer (some ⟨b, o, none⟩))
  | .slice none 0 0 => .nilSlice
  | .slice (some ⟨b, o, none⟩) len cap => if isCells w b && cap != 0 then .slice b o len cap false else .raw (.slice (some ⟨b, o, none⟩) len cap)
  | v => .raw v

def mu0 (w : World) : Place := fun b => if isCells w b then some (b, 0) else none

theorem mu0_some {w : World} {b : Nat} (h : isCells w b = true) : mu0 w b = some (b, 0) := if_pos h

theorem conc_absA (w : World) (v : Value) : conc (mu0 w) (absA w v) = some v := by
  unfold absA
  split
  · rfl
  · rfl
  · rfl
  · rfl
  · split
    · rename_i h; simp [conc, mu0_some h]
    · rfl
  · rfl
  · split
    · rename_i h; simp [conc, mu0_some (Bool.and_eq_true _ _ ▸ h).1]
    · rfl
  · rfl

theorem concs_absA (w : World) : ∀ l : List Value, concs (mu0 w) (l.map (absA w)) = some l
  | [] => rfl
  | v :: r => by simp [concs, conc_absA, concs_absA w r]

def st0 (w : World) : St where
  heap := .lf
  base b := match w.heap[b]? with
    | some (.cells c _ _) => some (.cells (c.toList.map (absA w)) false true 0)
    | _ => none
  next := w.heap.size

theorem get_st0 (w : World) (b : Nat) : (st0 w).get b = match w.heap[b]? with
    | some (.cells c _ _) => some (.cells (c.toList.map (absA w)) false true 0)
    | _ => none := by
  unfold St.get
  show (match (Tr.lf : Tr (Option AObj)).get b with | some o => o | none => (st0 w).base b) = _
  rw [Tr.get_lf]
  rfl

theorem get_st0_some {w : World} {b : Nat} {o : AObj} (h : (st0 w).get b = some o) : ∃ c e fz, w.heap[b]? = some (.cells c e fz) ∧ o = .cells (c.toList.map (absA w)) false true 0 ∧ isCells w b = true := by
  rw [get_st0] at h
  split at h
  · rename_i c e fz hc
    cases h
    exact ⟨c, e, fz, hc, rfl, by unfold isCells; rw [hc]⟩
  · cases h

theorem isCells_lt {w : World} {b : Nat} (h : isCells w b = true) : b < w.heap.size := by
  unfold isCells at h
  split at h
  · rename_i hc
    exact (Array.getElem?_eq_some_iff.1 hc).1
  · cases h

theorem hr0 (R : Nat) (w : World) : HR P R (mu0 w) (st0 w) w where
  obj b o h := by
    obtain ⟨c, e, fz, h1, rfl, h3⟩ := get_st0_some h
    exact ⟨(b, 0), mu0_some h3, c, e, fz, c.toList, [], h1, concs_absA w _, by simp, by simp, fun _ => rfl, fun h => by cases h⟩
  inj b c o o' p q h1 h2 hp hq e := by
    obtain ⟨_, _, _, _, _, h3⟩ := get_st0_some h1
    obtain ⟨_, _, _, _, _, h4⟩ := get_st0_some h2
    rw [mu0_some h3] at hp; cases hp
    rw [mu0_some h4] at hq; cases hq
    exact e
  lt b p h := by
    unfold mu0 at h
    split at h
    · rename_i hb
      cases h
      exact ⟨isCells_lt hb, .inl (isCells_lt hb)⟩
    · cases h
  dom b o h := by
    obtain ⟨_, _, _, _, _, h3⟩ := get_st0_some h
    exact isCells_lt h3

theorem below0 {w w' : World} {ν : Place} {s' : St} (h : Mv (mu0 w) (st0 w) w ν s' w') : Below w.heap.size w w' where
  os := h.os
  tape := h.tape.eq
  output := h.output
  size := h.size
  block k hk := by
    by_cases hc : isCells w k = true
    · have : ∃ c, (st0 w).get k = some (.cells c false true 0) := by
        have hc' := hc
        unfold isCells at hc'
        split at hc'
        · rename_i hx; rw [get_st0, hx]; exact ⟨_, rfl⟩
        · cases hc'
      obtain ⟨c, hg⟩ := this
      exact (h.ro k c false 0 (k, 0) hg (mu0_some hc)).2
    · refine h.frame k hk fun b p _ hb => ?_
      unfold mu0 at hb
      split at hb
      · rename_i hb'
        cases hb
        intro e
        exact hc (by have : b = k := e; rw [← this]; exact hb')
      · cases hb

/-- A run of the abstract machine over what a law finds is a run of the law. -/
theorem calls_of_W {M : Mach} (hm : P.follows .mixedOrders = true) (hFT : FnsOk P M.FT) (hSM : SumsOk P M.SM) (hSN : SumsNext M.SM) {f : Nat} {args : List Value} {w : World}
    (h : Wf M f (args.map (fun v => match v with | .agg cs => .agg (cs.toList.map (absA w)) | v => absA w v)) (st0 w) fun v _ => v = .bool true) :
    Calls P f args.toArray w fun e w' => e = .returned (.bool true) ∧ Below w.heap.size w w' := by
  obtain ⟨v, s', hx, rfl⟩ := h
  obtain ⟨n, hn⟩ := (sup_lim M.FT M.SM).call _ _ _ _ hx
  have hc : ∀ l : List Value, concs (mu0 w) (l.map (fun v => match v with | .agg cs => .agg (cs.toList.map (absA w)) | v => absA w v)) = some l := by
    intro l
    induction l with
    | nil => rfl
    | cons v r ih =>
      simp only [List.map_cons, concs, ih, Option.map_some]
      cases v with
      | agg cs => simp [conc, concs_absA]
      | _ => simp only [conc_absA, Option.bind_some]
  have := ((eng_sound hm hFT hSM hSN n).call hn (Nat.le_refl _) (hr0 s'.next w) (hc args)).2 0
  refine callsIn_wide.1 (this.mono ?_)
  intro e w' hr
  cases e with
  | returned c =>
    obtain ⟨ν, h1, _, h3⟩ := hr
    simp only [conc, Option.some.injEq] at h1
    subst h1
    exact ⟨rfl, below0 h3⟩
  | panicked _ => exact hr.elim
  | outgrown => exact hr.elim

/-! ### What arguments hold -/

inductive Ty where
  | bool
  | int (k : IntKind)
  | str
  | slice (e : Ty)
  | many (l : List Ty)

mutual
def Ty.size : Ty → Nat
  | .many l => sizes l
  | _ => 1
def sizes : List Ty → Nat
  | [] => 0
  | t :: r => t.size + sizes r
end

mutual
/-- Cells that hold a value of a type. -/
def Ok (s : St) : Ty → List AV → Prop
  | .bool, l => ∃ b, l = [.bool b]
  | .int k, l => ∃ n, l = [.int k n] ∧ k.min ≤ n ∧ n ≤ k.max
  | .str, l => ∃ x : ByteArray, l = [.str x] ∧ x.size ≤ maxLen
  | .slice e, l => l = [.nilSlice] ∨ (∃ a, l = [.raw (.slice a 0 0)]) ∨ ∃ b o len cap vs, l = [.slice b o len cap false] ∧ len ≤ cap ∧ cap ≤ maxLen ∧ s.get b = some (.cells vs false true 0) ∧ b < s.next ∧
      (0 < cap ∧ o + cap * e.size ≤ vs.length) ∧ ∀ i, i < cap → Ok s e ((vs.drop (o + i * e.size)).take e.size)
  | .many ts, l => OkAll s ts l
def OkAll (s : St) : List Ty → List AV → Prop
  | [], l => l = []
  | t :: ts, l => ∃ a b, l = a ++ b ∧ Ok s t a ∧ OkAll s ts b
end

section
variable (P)
def tyFs (tf : TypeId → Option Ty) : List Field → Nat → Option (List Ty)
  | [], _ => some []
  | f :: r, off => match tf f.type with
    | none => none
    | some T => if f.offset == off && T.size == P.cellsOf f.type then match tyFs tf r (off + T.size) with
      | some l => some (T :: l)
      | none => none
    else none

def tyOf : Nat → TypeId → Option Ty
  | 0, _ => none
  | d + 1, t => match P.underlying t with
    | some .bool => some .bool
    | some (.int k) => some (.int k)
    | some .string => some .str
    | some (.slice e) => match tyOf d e with
      | some T => if T.size == P.cellsOf e && Nat.ble 1 T.size then some (.slice T) else none
      | none => none
    | some (.struct fs) => match tyFs P (tyOf d) fs.toList 0 with
      | some l => if sizes l == P.cellsOf t then some (.many l) else none
      | none => none
    | some (.array n e) => match tyOf d e with
      | some T => if T.size == P.cellsOf e && n * T.size == P.cellsOf t then some (.many (List.replicate n T)) else none
      | none => none
    | _ => none
end

theorem mapM_some {α β : Type} {f : α → Option β} : ∀ {l : List α} {r : List β}, l.mapM f = some r → ∀ x ∈ l, ∃ y, f x = some y
  | [], _, _, x, hx => by cases hx
  | a :: l, r, h, x, hx => by
    simp only [List.mapM_cons, Option.bind_eq_bind, Option.bind_eq_some_iff] at h
    obtain ⟨y, h1, z, h2, _⟩ := h
    cases hx with
    | head => exact ⟨y, h1⟩
    | tail _ hx => exact mapM_some h2 x hx

theorem mapM_get {α β : Type} {f : α → Option β} : ∀ {l : List α} {r : List β}, l.mapM f = some r → r.length = l.length ∧ ∀ i (hi : i < l.length), ∃ y, f l[i] = some y ∧ r[i]? = some y
  | [], r, h => by
    simp only [List.mapM_nil, Option.pure_def, Option.some.injEq] at h
    subst h
    exact ⟨rfl, fun i hi => by simp at hi⟩
  | a :: l, r, h => by
    simp only [List.mapM_cons, Option.bind_eq_bind, Option.bind_eq_some_iff, Option.pure_def, Option.some.injEq] at h
    obtain ⟨y, h1, z, h2, rfl⟩ := h
    obtain ⟨g1, g2⟩ := mapM_get h2
    refine ⟨by simp [g1], fun i hi => ?_⟩
    cases i with
    | zero => exact ⟨y, h1, rfl⟩
    | succ i => obtain ⟨u, u1, u2⟩ := g2 i (by simpa using hi); exact ⟨u, by simpa using u1, by simpa using u2⟩

theorem cell_read {w : World} {b o : Nat} {sp : Option Nat} {y : Value} (hy : w.cell? ⟨b, o, sp⟩ = some y) : sp = none ∧ ∃ c e fz, w.heap[b]? = some (.cells c e fz) ∧ c[o]? = some y := by
  unfold World.cell? at hy
  split at hy
  · rename_i c e fz hc
    cases sp with
    | none => exact ⟨rfl, c, e, fz, hc, by simpa using hy⟩
    | some x => simp at hy
  · cases hy

/-- Cells that are read from an address on. -/
theorem cells_read {w : World} {b o n : Nat} {sp : Option Nat} {cs : List Value} (hn : 0 < n) (h : w.cells? 0 ⟨b, o, sp⟩ n = some cs) :
    sp = none ∧ ∃ c e fz, w.heap[b]? = some (.cells c e fz) ∧ o + n ≤ c.size ∧ cs = (c.toList.drop o).take n := by
  unfold World.cells? at h
  rw [if_pos (Nat.zero_le _)] at h
  obtain ⟨g1, g2⟩ := mapM_get h
  obtain ⟨y0, hy0, _⟩ := g2 0 (by simpa using hn)
  obtain ⟨rfl, c, e, fz, hc, _⟩ := cell_read (by simpa [Addr.add] using hy0)
  have cellOf : ∀ i, i < n → ∃ y, c[o + i]? = some y ∧ cs[i]? = some y := by
    intro i hi
    obtain ⟨y, h1, h2⟩ := g2 i (by simpa using hi)
    have h1' : w.cell? ⟨b, o + i, none⟩ = some y := by
      rw [List.getElem_range] at h1
      unfold Addr.add at h1
      split at h1
      · rename_i hz; subst hz; exact h1
      · exact h1
    obtain ⟨_, c', _, _, hc', hcc⟩ := cell_read h1'
    rw [hc] at hc'; cases hc'
    exact ⟨y, hcc, h2⟩
  refine ⟨rfl, c, e, fz, hc, ?_, ?_⟩
  · obtain ⟨y, hcc, _⟩ := cellOf (n - 1) (by omega)
    have := (Array.getElem?_eq_some_iff.1 hcc).1
    omega
  · apply List.ext_getElem?
    intro i
    by_cases hi : i < n
    · obtain ⟨y, hcc, hy'⟩ := cellOf i hi
      rw [hy', List.getElem?_take, if_pos hi, List.getElem?_drop]
      simpa using hcc.symm
    · rw [List.getElem?_take, if_neg hi]
      exact List.getElem?_eq_none (by rw [g1]; simp; omega)

theorem sizes_replicate (n : Nat) (T : Ty) : sizes (List.replicate n T) = n * T.size := by
  induction n with
  | zero => simp [sizes]
  | succ n ih => simp [List.replicate_succ, sizes, ih, Nat.succ_mul]; omega

section
variable {H : Type} {enc : TypeId × Value → H} {w : World}

/-- What reading a value of a type has shown. -/
def Shown (P : Program) (enc : TypeId × Value → H) (w : World) (d : Nat) : Prop :=
  ∀ (t : TypeId) (T : Ty) (fuel : Nat) (cs : List Value) (r : DataW H × List MemPlace), tyOf P d t = some T → DataW.trod enc P w 0 (fun _ => true) true fuel t cs = some r → cs.length = T.size ∧ Ok (st0 w) T (cs.map (absA w))

theorem fields_ok {d fuel : Nat} (ih : Shown P enc w d) {cs : List Value} : ∀ {fs : List Field} {off : Nat} {l : List Ty}, tyFs P (tyOf P d) fs off = some l →
    (∀ f ∈ fs, ∃ y, DataW.trod enc P w 0 (fun _ => true) true fuel f.type ((cs.drop f.offset).take (P.cellsOf f.type)) = some y) → off + sizes l = cs.length → OkAll (st0 w) l ((cs.drop off).map (absA w))
  | [], off, l, h, _, hs => by
    simp only [tyFs, Option.some.injEq] at h
    subst h
    simp only [sizes, Nat.add_zero] at hs
    simp [OkAll, hs]
  | f :: fs, off, l, h, ha, hs => by
    simp only [tyFs] at h
    split at h
    case h_1 => cases h
    rename_i T hT
    split at h
    case isFalse => cases h
    rename_i hc
    simp only [Bool.and_eq_true, beq_iff_eq] at hc
    split at h
    case h_2 => cases h
    rename_i l' hl'
    cases h
    obtain ⟨y, hy⟩ := ha f (List.mem_cons_self ..)
    obtain ⟨h1, h2⟩ := ih _ _ _ _ _ hT hy
    simp only [sizes] at hs
    have h3 := fields_ok ih hl' (fun g hg => ha g (List.mem_cons_of_mem _ hg)) (by omega)
    rw [hc.1, ← hc.2] at h2
    refine ⟨_, _, ?_, h2, h3⟩
    rw [← List.map_append]
    congr 1
    rw [← List.drop_drop, List.take_append_drop]

theorem elems_ok {d fuel n e : Nat} (ih : Shown P enc w d) {T : Ty} (hT : tyOf P d e = some T) (hz : T.size = P.cellsOf e) {cs : List Value}
    (ha : ∀ i, i < n → ∃ y, DataW.trod enc P w 0 (fun _ => true) true fuel e ((cs.drop (i * P.cellsOf e)).take (P.cellsOf e)) = some y) (hs : n * T.size = cs.length) :
    ∀ m k, k + m = n → OkAll (st0 w) (List.replicate m T) ((cs.drop (k * T.size)).map (absA w))
  | 0, k, hk => by
    have : k = n := by omega
    subst this
    simp [OkAll, hs]
  | m + 1, k, hk => by
    obtain ⟨y, hy⟩ := ha k (by omega)
    obtain ⟨h1, h2⟩ := ih _ _ _ _ _ hT hy
    have h3 := elems_ok ih hT hz ha hs m (k + 1) (by omega)
    rw [← hz] at h2
    refine ⟨_, _, ?_, h2, h3⟩
    rw [← List.map_append]
    congr 1
    rw [Nat.succ_mul, ← List.drop_drop, List.take_append_drop]

theorem shown : ∀ d, Shown P enc w d
  | 0 => fun t T fuel cs r hT _ => by cases hT
  | d + 1 => by
    intro t T fuel cs r hT hr
    have ih := shown d
    cases fuel with
    | zero => simp [DataW.trod] at hr
    | succ fuel =>
      simp only [tyOf] at hT
      split at hT
      · rename_i hu
        cases hT
        unfold DataW.trod at hr
        rw [hu] at hr
        split at hr <;> simp_all [Ty.size, Ok, absA]
      · rename_i k hu
        cases hT
        unfold DataW.trod at hr
        rw [hu] at hr
        split at hr <;> simp_all [Ty.size, Ok, absA, Lit.wf]
      · rename_i hu
        cases hT
        unfold DataW.trod at hr
        rw [hu] at hr
        split at hr <;> simp_all [Ty.size, Ok, absA]
      · rename_i e hu
        split at hT
        case h_2 => cases hT
        rename_i E hE
        split at hT
        case isFalse => cases hT
        rename_i hc
        simp only [Bool.and_eq_true, beq_iff_eq] at hc
        obtain ⟨hc1, hc2⟩ := hc
        have hc3 : 1 ≤ E.size := Nat.le_of_ble_eq_true hc2
        cases hT
        unfold DataW.trod at hr
        rw [hu] at hr
        split at hr
        all_goals try (rename_i h _; cases h; done)
        all_goals try (rename_i h; cases h; done)
        all_goals try (cases hr; done)
        · exact ⟨rfl, .inl rfl⟩
        · rename_i e' a len cap he
          cases he
          dsimp only at hr
          split at hr
          case isFalse => cases hr
          rename_i hlc
          simp only [Option.bind_eq_some_iff, Option.map_eq_some_iff, if_true] at hr
          obtain ⟨elems, hel, rest, hre, _⟩ := hr
          have hat : ∀ i, i < cap → ∃ cs', w.cells? 0 (a.add (i * P.cellsOf e)) (P.cellsOf e) = some cs' ∧ ∃ y, DataW.trod enc P w 0 (fun _ => true) true fuel e cs' = some y := by
            intro i hi
            by_cases hil : i < len
            · obtain ⟨y, hy⟩ := mapM_some hel i (by simpa using hil)
              simp only [Option.bind_eq_some_iff] at hy
              obtain ⟨cs', h1, h2⟩ := hy
              exact ⟨cs', h1, y, h2⟩
            · obtain ⟨y, hy⟩ := mapM_some hre (i - len) (by simp; omega)
              simp only [Option.bind_eq_some_iff] at hy
              obtain ⟨cs', h1, h2⟩ := hy
              rw [show len + (i - len) = i by omega] at h1
              exact ⟨cs', h1, y, h2⟩
          refine ⟨rfl, ?_⟩
          obtain ⟨b, o, sp⟩ := a
          by_cases hcap : cap = 0
          · subst hcap
            have : len = 0 := by omega
            subst this
            cases sp with
            | some x => exact .inr (.inl ⟨_, rfl⟩)
            | none => exact .inr (.inl ⟨some ⟨b, o, none⟩, by simp [absA]⟩)
          · obtain ⟨cs0, h0, _⟩ := hat 0 (by omega)
            rw [Nat.zero_mul] at h0
            obtain ⟨rfl, c, el, fz, hx, _, _⟩ := cells_read (by omega) (show w.cells? 0 ⟨b, o, sp⟩ (P.cellsOf e) = some cs0 from h0)
            have hb : isCells w b = true := by unfold isCells; rw [hx]
            have row : ∀ i, i < cap → o + i * E.size + E.size ≤ c.size ∧ Ok (st0 w) E ((((c.toList.map (absA w)).drop (o + i * E.size)).take E.size)) := by
              intro i hi
              obtain ⟨cs', h1, y, h2⟩ := hat i hi
              have e1 : (⟨b, o, none⟩ : Addr).add (i * P.cellsOf e) = ⟨b, o + i * P.cellsOf e, none⟩ := by
                unfold Addr.add
                split
                · rename_i hz; rw [hz]; rfl
                · rfl
              rw [e1] at h1
              obtain ⟨_, c', _, _, hx', hle, rfl⟩ := cells_read (by omega) h1
              rw [hx] at hx'; cases hx'
              obtain ⟨_, g2⟩ := ih _ _ _ _ _ hE h2
              rw [← hc1] at hle g2
              refine ⟨hle, ?_⟩
              rw [List.map_take, List.map_drop] at g2
              exact g2
            refine .inr (.inr ⟨b, o, len, cap, c.toList.map (absA w), by simp [absA, hb, hcap], hlc.2.1, hlc.2.2, by rw [get_st0, hx], isCells_lt hb, ⟨by omega, ?_⟩, fun i hi => (row i hi).2⟩)
            have := (row (cap - 1) (by omega)).1
            have hm : cap * E.size = (cap - 1) * E.size + E.size := by
              rw [← Nat.succ_mul]; congr 1; omega
            simp; omega
      · rename_i fs hu
        split at hT
        case h_2 => cases hT
        rename_i l hl
        split at hT
        case isFalse => cases hT
        rename_i hc
        simp only [beq_iff_eq] at hc
        cases hT
        unfold DataW.trod at hr
        rw [hu] at hr
        split at hr
        all_goals try (rename_i h _; cases h; done)
        all_goals try (rename_i h; cases h; done)
        all_goals try (cases hr; done)
        all_goals try (exact (‹∀ fs' : Array Field, some (TypeDesc.struct fs) = some (TypeDesc.struct fs') → False› fs rfl).elim)
        rename_i fs' _ he
        cases he
        split at hr
        case isFalse => cases hr
        rename_i hlen
        simp only [Option.map_eq_some_iff] at hr
        obtain ⟨xs, hxs, _⟩ := hr
        refine ⟨by rw [hlen, ← hc]; rfl, ?_⟩
        have := fields_ok ih hl (fun f hf => mapM_some hxs f hf) (by omega)
        simpa [Ok] using this
      · rename_i n e hu
        split at hT
        case h_2 => cases hT
        rename_i E hE
        split at hT
        case isFalse => cases hT
        rename_i hc
        simp only [Bool.and_eq_true, beq_iff_eq] at hc
        cases hT
        unfold DataW.trod at hr
        rw [hu] at hr
        split at hr
        all_goals try (rename_i h _; cases h; done)
        all_goals try (rename_i h; cases h; done)
        all_goals try (cases hr; done)
        all_goals try (exact (‹∀ (n' : Nat) (e' : TypeId), some (TypeDesc.array n e) = some (TypeDesc.array n' e') → False› n e rfl).elim)
        rename_i n' e' _ he
        cases he
        split at hr
        case isFalse => cases hr
        rename_i hlen
        simp only [Option.map_eq_some_iff] at hr
        obtain ⟨xs, hxs, _⟩ := hr
        refine ⟨by rw [hlen, ← hc.2]; simp [Ty.size, sizes_replicate], ?_⟩
        have := elems_ok ih hE hc.1 (fun i hi => mapM_some hxs i (by simpa using hi)) (by rw [hlen, hc.2]) n 0 (by omega)
        simpa [Ok] using this
      · cases hT
end
end
end Go.Proofs.YteiiblpnegjjlaaGreat.D
namespace Go.Proofs.YteiiblpnegjjlaaGreat.D
noncomputable section
open Go.RowKit
variable {P : Program} {H : Type} {enc : TypeId × Value → H} {W W' : World}

def carries (P : Program) (ts : List TypeId) : Bool := ts.all fun t => P.readableRec t && decide (t < P.types.size)

theorem trodAll_stays (hl : laidOutB P = true) (hb : Below W.heap.size W W') {sp : Nat → Bool} : ∀ {ts : List TypeId} {vs : List Value} {ds : List (DataW H)} {ps : List MemPlace}, carries P ts = true → DataW.TrodAll enc P W 0 (fun _ => true) true ts vs ds ps →
    (∀ x ∈ ps, x.block < W.heap.size) → (∀ x ∈ ps, sp x.block = true) → DataW.TrodAll enc P W' 0 sp true ts vs ds ps
  | [], [], [], ps, _, h, _, _ => h
  | t :: ts, v :: vs, d :: ds, ps, hc, h, hlt, hsp => by
    obtain ⟨p, q, h1, h2, rfl⟩ := h
    simp only [carries, List.all_cons, Bool.and_eq_true, decide_eq_true_eq] at hc
    refine ⟨p, q, ?_, trodAll_stays hl hb (by simpa [carries] using hc.2) h2 (fun x hx => hlt x (List.mem_append_right _ hx)) (fun x hx => hsp x (List.mem_append_right _ hx)), rfl⟩
    exact WideElems.Trod_stays hl hc.1.1 hc.1.2 h1 (fun x hx => hb.same (hlt x (List.mem_append_left _ hx))) (fun x hx => hsp x (List.mem_append_left _ hx))
  | [], _ :: _, _, _, _, h, _, _ => h.elim
  | [], [], _ :: _, _, _, h, _, _ => h.elim
  | _ :: _, [], _, _, _, h, _, _ => h.elim
  | _ :: _, _ :: _, [], _, _, h, _, _ => h.elim

/-- An argument, as the abstract machine's. -/
def absArg (w : World) (v : Value) : AV :=
  match v with
  | .agg cs => .agg (cs.toList.map (absA w))
  | v => absA w v

/-- What an argument of a type holds. -/
def ArgOk (s : St) : Ty → AV → Prop
  | .many ts, a => ∃ l, a = .agg l ∧ OkAll s ts l
  | T, a => Ok s T [a]

def ArgsOk (s : St) : List Ty → List AV → Prop
  | [], [] => True
  | T :: Ts, a :: asg => ArgOk s T a ∧ ArgsOk s Ts asg
  | _, _ => False

def tysOf (P : Program) (d : Nat) : List TypeId → Option (List Ty)
  | [] => some []
  | t :: ts => match tyOf P d t with
    | none => none
    | some T => match tysOf P d ts with
      | none => none
      | some Ts => some (T :: Ts)

theorem cells_not_agg {v : Value} (h : ∀ cs, v ≠ .agg cs) : v.cells.toList = [v] := by
  cases v <;> first | rfl | exact (h _ rfl).elim

theorem absArg_not_agg {w : World} {v : Value} (h : ∀ cs, v ≠ .agg cs) : absArg w v = absA w v := by
  cases v <;> first | rfl | exact (h _ rfl).elim

theorem cell_not_agg {P : Program} {w : World} {r : Reach} {base : Nat} {t : TypeId} {cs : Array Value} : ¬ Cell.okWide P w r base t (.agg cs) := by
  intro h
  unfold Cell.okWide Cell.ok at h
  repeat' split at h
  all_goals try exact h
  all_goals simp_all

theorem arg_ok {base : Nat} {d : Nat} {t : TypeId} {T : Ty} (hT : tyOf P d t = some T) {v : Value} {x : DataW H} {ps : List MemPlace} (h : DataW.Trod enc P W 0 (fun _ => true) true t v x ps) (ho : Value.okWide P W .any base t v) : ArgOk (st0 W) T (absArg W v) := by
  obtain ⟨fuel, hf⟩ := h
  obtain ⟨_, h2⟩ := shown d t T fuel _ _ hT hf
  have scalar : (∀ l, T ≠ .many l) → ArgOk (st0 W) T (absArg W v) := by
    intro hne
    have hna : ∀ cs, v ≠ .agg cs := by
      intro cs e
      subst e
      unfold Value.okWide at ho
      cases d with
      | zero => cases hT
      | succ d =>
        simp only [tyOf] at hT
        split at hT
        · rename_i hu; rw [hu] at ho; exact cell_not_agg ho
        · rename_i hu; rw [hu] at ho; exact cell_not_agg ho
        · rename_i hu; rw [hu] at ho; exact cell_not_agg ho
        · rename_i hu; rw [hu] at ho; exact cell_not_agg ho
        · split at hT
          · split at hT
            · cases hT; exact hne _ rfl
            · cases hT
          · cases hT
        · split at hT
          · split at hT
            · cases hT; exact hne _ rfl
            · cases hT
          · cases hT
        · cases hT
    rw [absArg_not_agg hna]
    rw [cells_not_agg hna] at h2
    cases T with
    | many l => exact (hne l rfl).elim
    | _ => exact h2
  cases T with
  | many l =>
    have : ∃ cs, v = .agg cs := by
      unfold Value.okWide at ho
      cases d with
      | zero => cases hT
      | succ d =>
        simp only [tyOf] at hT
        split at hT
        · cases hT
        · cases hT
        · cases hT
        · repeat' split at hT
          all_goals cases hT
        · rename_i fs hu
          rw [hu] at ho
          obtain ⟨cs, h, _⟩ := ho
          exact ⟨cs, h⟩
        · rename_i n e hu
          rw [hu] at ho
          obtain ⟨cs, h, _⟩ := ho
          exact ⟨cs, h⟩
        · cases hT
    obtain ⟨cs, rfl⟩ := this
    exact ⟨_, rfl, h2⟩
  | _ => exact scalar (fun l => by intro h; cases h)

theorem args_ok {base : Nat} {d : Nat} : ∀ {ts : List TypeId} {Ts : List Ty} {vs : List Value} {ds : List (DataW H)} {ps : List MemPlace}, tysOf P d ts = some Ts → DataW.TrodAll enc P W 0 (fun _ => true) true ts vs ds ps →
    (∀ (j : Nat) t v, ts[j]? = some t → vs[j]? = some v → Value.okWide P W .any base t v) → ArgsOk (st0 W) Ts (vs.map (absArg W))
  | [], Ts, [], [], ps, hT, _, _ => by cases hT; trivial
  | t :: ts, Ts, v :: vs, d' :: ds, ps, hT, h, ho => by
    simp only [tysOf] at hT
    split at hT
    case h_1 => cases hT
    rename_i T h1
    split at hT
    case h_1 => cases hT
    rename_i Ts' h2
    cases hT
    obtain ⟨p, q, g1, g2, rfl⟩ := h
    exact ⟨arg_ok h1 g1 (ho 0 t v rfl rfl), args_ok h2 g2 (fun j t v a b => ho (j + 1) t v (by simpa using a) (by simpa using b))⟩
  | [], _, _ :: _, _, _, _, h, _ => h.elim
  | [], _, [], _ :: _, _, _, h, _ => h.elim
  | _ :: _, _, [], _, _, _, h, _ => h.elim
  | _ :: _, _, _ :: _, [], _, _, h, _ => h.elim

theorem argsOk_nil {s : St} {a : List AV} (h : ArgsOk s [] a) : a = [] := by
  cases a with
  | nil => rfl
  | cons _ _ => exact h.elim
theorem argsOk_cons {s : St} {T : Ty} {Ts : List Ty} {a : List AV} (h : ArgsOk s (T :: Ts) a) : ∃ x r, a = x :: r ∧ ArgOk s T x ∧ ArgsOk s Ts r := by
  cases a with
  | nil => exact h.elim
  | cons x r => exact ⟨x, r, rfl, h.1, h.2⟩
theorem argOk_int {s : St} {k : IntKind} {x : AV} (h : ArgOk s (.int k) x) : ∃ n, x = .int k n ∧ k.min ≤ n ∧ n ≤ k.max := by
  obtain ⟨n, h1, h2⟩ := h
  cases h1
  exact ⟨n, rfl, h2⟩
theorem argOk_bool {s : St} {x : AV} (h : ArgOk s .bool x) : ∃ b, x = .bool b := by
  obtain ⟨n, h1⟩ := h
  cases h1
  exact ⟨n, rfl⟩
theorem argOk_slice {s : St} {e : Ty} {x : AV} (h : ArgOk s (.slice e) x) : x = .nilSlice ∨ (∃ a, x = .raw (.slice a 0 0)) ∨ ∃ b o len cap vs, x = .slice b o len cap false ∧ len ≤ cap ∧ cap ≤ maxLen ∧ s.get b = some (.cells vs false true 0) ∧ b < s.next ∧
      (0 < cap ∧ o + cap * e.size ≤ vs.length) ∧ ∀ i, i < cap → Ok s e ((vs.drop (o + i * e.size)).take e.size) := by
  rcases h with h | ⟨a, h⟩ | ⟨b, o, len, cap, vs, h, h'⟩
  · cases h; exact .inl rfl
  · cases h; exact .inr (.inl ⟨a, rfl⟩)
  · cases h; exact .inr (.inr ⟨b, o, len, cap, vs, rfl, h'⟩)

/-- The run of a law. -/
theorem calls_of_args {M : Mach} (hm : P.follows .mixedOrders = true) (hFT : FnsOk P M.FT) (hSM : SumsOk P M.SM) (hSN : SumsNext M.SM) {f : Nat} {Ts : List Ty} (h : ∀ s asg, ArgsOk s Ts asg → Wf M f asg s fun v _ => v = .bool true)
    {args : List Value} (ha : ArgsOk (st0 W) Ts (args.map (absArg W))) : Calls P f args.toArray W fun e w' => e = .returned (.bool true) ∧ Below W.heap.size W w' :=
  calls_of_W hm hFT hSM hSN (h _ _ ha)
end
end Go.Proofs.YteiiblpnegjjlaaGreat.D
namespace Go.Proofs.YteiiblpnegjjlaaGreat.D
set_option linter.unusedSimpArgs false
noncomputable section

/-- A slice that came in, its elements' cells one by one, and where they lie. -/
structure Acc (s : St) (v : AV) (sz : Nat) (xs : List (List AV)) (b o : Nat) : Prop where
  len : ∀ s', len1 (some v) s' = some (.int .i64 (xs.length : Nat), s')
  idx : ∀ s' (j : Nat), j < xs.length → idx1 sz (some v) (some (.int .i64 (j : Int))) s' = some (.ptr b (o + j * sz), s')
  at_ : ∀ j (h : j < xs.length), ∃ vs, s.get b = some (.cells vs false true 0) ∧ o + (j * sz + sz) ≤ vs.length ∧ (vs.drop (o + j * sz)).take sz = xs[j]
  lt : 0 < xs.length → b < s.next
  cell : v.cell = true
  cells : v.cells = [v]
  max : xs.length ≤ maxLen
  form : 0 < xs.length → ∃ cap, v = .slice b o xs.length cap false ∧ xs.length ≤ cap ∧ cap ≤ maxLen

theorem Acc.mono {s s' : St} {v : AV} {sz : Nat} {xs : List (List AV)} {b o : Nat} (h : Acc s v sz xs b o) (f : Fr s s') : Acc s' v sz xs b o where
  len := h.len
  idx := h.idx
  at_ j hj := by
    obtain ⟨vs, h1, h2⟩ := h.at_ j hj
    exact ⟨vs, (f.get b (h.lt (by omega))).trans h1, h2⟩
  lt hn := Nat.lt_of_lt_of_le (h.lt hn) f.le
  cell := h.cell
  cells := h.cells
  max := h.max
  form := h.form

theorem Acc.monoX {s s' : St} {v : AV} {sz : Nat} {xs : List (List AV)} {b o : Nat} (h : Acc s v sz xs b o) {x : Nat} (f : FrX x s s') {l : List AV} {lo : Bool} {z : Nat} (hx : s.get x = some (.cells l lo false z)) : Acc s' v sz xs b o where
  len := h.len
  idx := h.idx
  at_ j hj := by
    obtain ⟨vs, h1, h2⟩ := h.at_ j hj
    refine ⟨vs, (f.get b (h.lt (by omega)) ?_).trans h1, h2⟩
    intro e
    rw [e, hx] at h1
    cases h1
  lt hn := Nat.lt_of_lt_of_le (h.lt hn) f.le
  cell := h.cell
  cells := h.cells
  max := h.max
  form := h.form

theorem acc_nil (s : St) (sz : Nat) : Acc s .nilSlice sz [] 0 0 where
  len _ := rfl
  idx _ j h := by simp at h
  at_ j h := by simp at h
  lt h := by simp at h
  cell := rfl
  cells := rfl
  max := by simp
  form h := by simp at h

theorem acc_of_ok {s : St} {e : Ty} {v : AV} (h : ArgOk s (.slice e) v) : ∃ xs b o, Acc s v e.size xs b o ∧ ∀ x ∈ xs, Ok s e x := by
  rcases argOk_slice h with rfl | ⟨a, rfl⟩ | ⟨b, o, len, cap, vs, rfl, h1, h2, h3, h4, h5, h6⟩
  · exact ⟨[], 0, 0, acc_nil s _, by simp⟩
  · exact ⟨[], 0, 0, ⟨fun _ => rfl, fun _ j h => by simp at h, fun j h => by simp at h, fun h => by simp at h, rfl, rfl, by simp, fun h => by simp at h⟩, by simp⟩
  · refine ⟨(List.range len).map fun i => (vs.drop (o + i * e.size)).take e.size, b, o, ⟨?_, ?_, ?_, fun _ => h4, rfl, rfl, by simp; omega, fun _ => ⟨cap, by simp, by simpa using h1, h2⟩⟩, ?_⟩
    · intro s'
      simp [len1]
    · intro s' j hj
      rw [List.length_map, List.length_range] at hj
      exact idx1_slice hj
    · intro j hj
      rw [List.length_map, List.length_range] at hj
      refine ⟨vs, h3, ?_, by simp⟩
      have := h5.2
      have h7 : (j + 1) * e.size ≤ cap * e.size := Nat.mul_le_mul_right _ (by omega)
      rw [Nat.succ_mul] at h7
      omega
    · intro x hx
      rw [List.mem_map] at hx
      obtain ⟨i, hi, rfl⟩ := hx
      rw [List.mem_range] at hi
      exact h6 i (by omega)

/-- What lies at a place of an element. -/
theorem Acc.part {s : St} {v : AV} {sz : Nat} {xs : List (List AV)} {b o : Nat} (h : Acc s v sz xs b o) (j : Nat) (hj : j < xs.length) : ∃ vs, s.get b = some (.cells vs false true 0) ∧
    (∀ i n, i + n ≤ sz → o + (j * sz + i) + n ≤ vs.length ∧ (vs.drop (o + (j * sz + i))).take n = (xs[j].drop i).take n) ∧ ∀ i, i < sz → vs[o + (j * sz + i)]? = xs[j][i]? := by
  obtain ⟨vs, h1, h2, h3⟩ := h.at_ j hj
  refine ⟨vs, h1, fun i n hi => ⟨by omega, ?_⟩, fun i hi => ?_⟩
  rotate_left
  · rw [← h3, List.getElem?_take_of_lt hi, List.getElem?_drop, Nat.add_assoc]
  rw [← h3, List.drop_take, List.take_take, List.drop_drop, Nat.min_eq_left (by omega), Nat.add_assoc]

/-- The beginning of a slice. -/
theorem Acc.take {s : St} {v : AV} {sz : Nat} {xs : List (List AV)} {b o : Nat} (h : Acc s v sz xs b o) {j : Nat} (hj : j ≤ xs.length) (h0 : 0 < xs.length) :
    ∃ v', sliceA sz v none (some (.int .i64 (j : Int))) none = some v' ∧ Acc s v' sz (xs.take j) b o := by
  obtain ⟨cap, rfl, hc, hm⟩ := h.form h0
  have hl : (xs.take j).length = j := by rw [List.length_take]; omega
  have hs : sliceA sz (.slice b o xs.length cap false) none (some (.int .i64 (j : Int))) none = some (.slice b o j cap false) := by
    have hb : boundsA xs.length cap none (some (.int .i64 (j : Int))) none = some (0, j, cap) := by
      have hb1 : boundA (.int .i64 (j : Int)) cap = some j := by
        show (if 0 ≤ (j : Int) ∧ (j : Int) ≤ (cap : Int) then some ((j : Int).toNat) else none) = some j
        rw [if_pos ⟨by omega, by omega⟩]
        simp
      unfold boundsA
      simp only [hb1]
    unfold sliceA
    simp only [hb]
    simp
  refine ⟨_, hs, ⟨?_, ?_, ?_, ?_, rfl, rfl, by rw [hl]; omega, fun _ => ⟨cap, by rw [hl], by omega, hm⟩⟩⟩
  · intro s'; rw [hl]; rfl
  · intro s' i hi; rw [hl] at hi; exact idx1_slice hi
  · intro i hi
    rw [hl] at hi
    obtain ⟨vs, h1, h2, h3⟩ := h.at_ i (by omega)
    exact ⟨vs, h1, h2, by rw [h3, List.getElem_take]⟩
  · intro _; exact h.lt h0

theorem ok_slice_arg {s : St} {e : Ty} {v : AV} (h : Ok s (.slice e) [v]) : ArgOk s (.slice e) v := h

theorem ok_slice1 {s : St} {e : Ty} {l : List AV} (h : Ok s (.slice e) l) : ∃ v, l = [v] ∧ ArgOk s (.slice e) v := by
  have h' := h
  rcases h with h | ⟨a, h⟩ | ⟨b, o, len, cap, vs, h, _⟩
  · subst h; exact ⟨_, rfl, h'⟩
  · subst h; exact ⟨_, rfl, h'⟩
  · subst h; exact ⟨_, rfl, h'⟩

theorem okAll_cons {s : St} {T : Ty} {Ts : List Ty} {l : List AV} (h : OkAll s (T :: Ts) l) : ∃ a b, l = a ++ b ∧ Ok s T a ∧ OkAll s Ts b := h
theorem okAll_nil {s : St} {l : List AV} (h : OkAll s [] l) : l = [] := h

theorem allCell_append : ∀ {a b : List AV}, allCell a = true → allCell b = true → allCell (a ++ b) = true
  | [], _, _, h => h
  | x :: a, b, h, k => by
    simp only [allCell, Bool.and_eq_true] at h
    simp only [List.cons_append, allCell, Bool.and_eq_true]
    exact ⟨h.1, allCell_append h.2 k⟩

mutual
theorem ok_length {s : St} : ∀ {T : Ty} {l : List AV}, Ok s T l → l.length = T.size
  | .bool, _, ⟨_, h⟩ => by subst h; rfl
  | .int _, _, ⟨_, h, _⟩ => by subst h; rfl
  | .str, _, ⟨_, h, _⟩ => by subst h; rfl
  | .slice _, _, h => by
    obtain ⟨_, rfl, _⟩ := ok_slice1 h
    rfl
  | .many _, _, h => okAll_length h
theorem okAll_length {s : St} : ∀ {Ts : List Ty} {l : List AV}, OkAll s Ts l → l.length = sizes Ts
  | [], _, h => by cases h; rfl
  | _ :: _, _, ⟨_, _, h, h1, h2⟩ => by subst h; rw [List.length_append, ok_length h1, okAll_length h2]; rfl
end

mutual
theorem ok_cell {s : St} : ∀ {T : Ty} {l : List AV}, Ok s T l → allCell l = true
  | .bool, _, ⟨_, h⟩ => by subst h; rfl
  | .int _, _, ⟨_, h, _⟩ => by subst h; rfl
  | .str, _, ⟨_, h, _⟩ => by subst h; rfl
  | .slice e, l, h => by
    obtain ⟨v, rfl, hv⟩ := ok_slice1 h
    obtain ⟨_, _, _, hA, _⟩ := acc_of_ok hv
    simp [allCell, hA.cell]
  | .many _, _, h => okAll_cell h
theorem okAll_cell {s : St} : ∀ {Ts : List Ty} {l : List AV}, OkAll s Ts l → allCell l = true
  | [], _, h => by cases h; rfl
  | _ :: _, _, ⟨_, _, h, h1, h2⟩ => by subst h; exact allCell_append (ok_cell h1) (okAll_cell h2)
end

/-- A list of cells, each read as one thing. -/
theorem list_read {α : Type} {f : α → List AV} {Q : α → Prop} : ∀ {xs : List (List AV)}, (∀ x ∈ xs, ∃ a, x = f a ∧ Q a) → ∃ l : List α, xs = l.map f ∧ ∀ a ∈ l, Q a
  | [], _ => ⟨[], rfl, by simp⟩
  | x :: xs, h => by
    obtain ⟨a, rfl, ha⟩ := h x (List.mem_cons_self ..)
    obtain ⟨l, rfl, hl⟩ := list_read (xs := xs) fun y hy => h y (List.mem_cons_of_mem _ hy)
    exact ⟨a :: l, rfl, fun b hb => by
      rcases List.mem_cons.1 hb with rfl | hb
      · exact ha
      · exact hl b hb⟩
end
end Go.Proofs.YteiiblpnegjjlaaGreat.D
namespace Go.Proofs.YteiiblpnegjjlaaGreat.D
set_option linter.unusedSimpArgs false
set_option linter.unusedVariables false
noncomputable section
variable {M : Mach} {ro : Option Nat} {k : List Fk} {dr : Dr} {ops : List PO} {ts : Tr AV} {ds : List Nat} {s : St} {Q : Post} {d : Option Nat} {P : AV → St → Prop}

/-- A round of a loop over a function. -/
def Round (M : Mach) (r : Nat) (args : List AV) (s : St) (P : Bool → St → Prop) : Prop := ∃ b s', roundA M.L r args s = some (.bool b, s') ∧ P b s'

theorem Round.mono {r : Nat} {args : List AV} {P P' : Bool → St → Prop} (h : Round M r args s P) (hp : ∀ b s', P b s' → P' b s') : Round M r args s P' := by
  obtain ⟨b, s', h1, h2⟩ := h
  exact ⟨b, s', h1, hp b s' h2⟩

theorem Wc_yld {r : Nat} {args : List AV} (h : Round M r args s fun b s' => Wo M ro k dr ops (putT d (.bool b) ts) ds s' Q) : Wc M ro (some (.yld r)) (some args) d k dr ops ts ds s Q := by
  obtain ⟨b, s', h1, h2⟩ := h
  exact ⟨_, _, rfl, rfl, _, _, h1, h2⟩

/-- What is put behind a round. -/
def roundEnd (r : Nat) (x : AExit) (s : St) (P : Bool → St → Prop) : Prop :=
  ∃ st pe ts ps a b d, s.get r = some (.loop st pe ts ps a b d) ∧
    match x with
    | .normal => P true (s.put r (.loop .ready .normal ts ps a b d))
    | x => P false (s.put r (.loop .done x ts ps a b d))

theorem Round_of {r : Nat} {args : List AV} {P : Bool → St → Prop} {pe : AExit} {ts0 : Tr AV} {ps : List Nat} {asg bd : PC} {d0 : Nat} (hr : s.get r = some (.loop .ready pe ts0 ps asg bd d0)) (hl : args.length = ps.length)
    (h : Wk M (some r) [] asg (setTs ps args ts0) [] s fun x ts1 ds1 s1 => x = .normal ∧ ds1 = [] ∧ ∃ pe ts2 ps2 a2 b2 d2, s1.get r = some (.loop .ready pe ts2 ps2 a2 b2 d2) ∧
      Wk M (some r) [] bd ts1 [] (s1.put r (.loop .busy pe ts2 ps2 a2 b2 d2)) fun x _ ds3 s3 => ds3 = [] ∧ roundEnd r x s3 P) : Round M r args s P := by
  obtain ⟨x, ts1, ds1, s1, h1, h2⟩ := h
  rw [Wr_nil] at h2
  obtain ⟨rfl, rfl, pe2, ts2, ps2, a2, b2, d2, h3, x3, t3, ds3, s3, h4, h5⟩ := h2
  rw [Wr_nil] at h5
  obtain ⟨rfl, st, pe4, ts4, ps4, a4, b4, d4, h6, h7⟩ := h5
  unfold Round roundA
  rw [hr]
  dsimp only
  rw [if_pos hl, h1]
  dsimp only
  rw [h3]
  dsimp only
  rw [h4]
  dsimp only
  rw [h6]
  cases x3 with
  | normal => exact ⟨true, _, rfl, h7⟩
  | exit id => exact ⟨false, _, rfl, h7⟩
  | ret => exact ⟨false, _, rfl, h7⟩

theorem Wk_range {x : X} {ps : List Nat} {asg bd : PC} {g : Nat} {first cap : List AV} (hx : evOf ts x = some (.fn (.func g) first cap))
    (h : Wf M g (first ++ [.yld (s.next + 1)] ++ cap) ((s.new .defd).new (.loop .ready .normal ts ps asg bd s.next)) fun _ s3 => ∃ st pe ts2 ps2 a2 b2 d2, s3.get (s.next + 1) = some (.loop st pe ts2 ps2 a2 b2 d2) ∧ st ≠ .busy ∧
      Wr M none k pe ts (s.next :: ds) (s3.put (s.next + 1) (.loop .exhausted pe ts2 ps2 a2 b2 d2)) Q) :
    Wk M none k (.rangeF x ps asg bd) ts ds s Q := by
  obtain ⟨v, s3, h1, st, pe, ts2, ps2, a2, b2, d2, h2, h3, h4⟩ := h
  refine ⟨pe, ts, s.next :: ds, _, ?_, h4⟩
  rw [lim_ex]
  simp only [exStep, hx, rangeA]
  rw [show (s.new .defd).next = s.next + 1 from rfl, h1]
  dsimp only
  rw [h2]
  cases st with
  | busy => exact (h3 rfl).elim
  | _ => rfl

theorem Wk_envs {c : PC} (F : Tr AV → Prop) (h : F ts) (h2 : ∀ ts, F ts → Wk M ro k c ts ds s Q) : Wk M ro k c ts ds s Q := h2 ts h

/-- The end of a function, what was put off taken away. -/
def Wz (o : Option St) (ts : Tr AV) (rs : List PRes) (P : AV → St → Prop) : Prop := ∃ s', o = some s' ∧ Wy (ressA ts s' rs) s' P
@[congr] theorem Wz_congr {o o' : Option St} {rs : List PRes} (h : o = o') : Wz o ts rs P = Wz o' ts rs P := by rw [h]
theorem Wz_some {s' : St} {rs : List PRes} : Wz (some s') ts rs P = Wy (ressA ts s' rs) s' P := by
  apply propext
  constructor
  · rintro ⟨_, h, hq⟩; cases h; exact hq
  · intro h; exact ⟨_, rfl, h⟩
theorem Wr_finD {rs : List PRes} {e : Nat} : Wr M ro [] .ret ts (e :: ds) s (Fin rs P) = Wz (takeAll (e :: ds) s) ts rs P := by
  rw [Wr_nil]
  apply propext
  constructor
  · rintro ⟨_, s', h, hq⟩; exact ⟨s', h, hq⟩
  · rintro ⟨s', h, hq⟩; exact ⟨fun _ h => (by cases h), s', h, hq⟩
theorem Wr_finD' {rs : List PRes} {e : Nat} : Wr M ro [] .normal ts (e :: ds) s (Fin rs P) = Wz (takeAll (e :: ds) s) ts rs P := by
  rw [Wr_nil]
  apply propext
  constructor
  · rintro ⟨_, s', h, hq⟩; exact ⟨s', h, hq⟩
  · rintro ⟨s', h, hq⟩; exact ⟨fun _ h => (by cases h), s', h, hq⟩
attribute [go_sem] Wz_some Wr_finD Wr_finD' takeAll setTs St.get_drop St.next_drop
end
end Go.Proofs.YteiiblpnegjjlaaGreat.D
namespace Go.Proofs.YteiiblpnegjjlaaGreat.D
variable {p : POp} {ev ev' : Ev} {s s' : St} {v : AV}

/-- All that lies has a number that was given out. -/
def DomS (s : St) : Prop := ∀ b o, s.get b = some o → b < s.next
/-- A step that gives out new numbers alone. -/
structure Stp (s s' : St) : Prop where
  le : s.next ≤ s'.next
  dom : DomS s → DomS s'
theorem Stp.refl (s : St) : Stp s s := ⟨Nat.le_refl _, id⟩
theorem Stp.trans {a b c : St} (h : Stp a b) (k : Stp b c) : Stp a c := ⟨Nat.le_trans h.le k.le, fun d => k.dom (h.dom d)⟩
theorem Stp.new (s : St) (o : AObj) : Stp s (s.new o) := ⟨by simp, fun d b x h => by
  rw [St.get_new] at h
  simp only [St.next_new]
  split at h
  · omega
  · have := d b x h; omega⟩
theorem Stp.put {b : Nat} {o : AObj} (h : s.get b = some o) (x : AObj) : Stp s (s.put b x) := ⟨Nat.le_refl _, fun d c y hc => by
  rw [St.get_put] at hc
  show c < s.next
  split at hc
  · subst c; exact d b o h
  · exact d c y hc⟩
theorem Stp.drop (s : St) (b : Nat) : Stp s (s.drop b) := ⟨Nat.le_refl _, fun d c y hc => by
  rw [St.get_drop] at hc
  show c < s.next
  split at hc
  · cases hc
  · exact d c y hc⟩

theorem storeA_stp {b o : Nat} {l : List AV} (h : storeA s b o l = some s') : Stp s s' := by
  unfold storeA at h
  split at h
  · split at h <;> cases h
    exact .put (by assumption) _
  · cases h

theorem appendA_stp {esz eb n : Nat} {x : AV} {l : List AV} (h : appendA esz eb s x n l = some (v, s')) : Stp s s' := by
  unfold appendA newA at h
  repeat' split at h
  all_goals first
    | (cases h; done)
    | (cases h; exact .refl _)
    | (cases h; exact .new _ _)
    | (cases h; exact (Stp.drop _ _).trans (.new _ _))
    | (cases h; exact storeA_stp (by assumption))

theorem xop_stp (h : xop p ev s = some (v, s')) : Stp s s' := by
  unfold xop at h
  simp only [] at h
  repeat' split at h
  all_goals first
    | (cases h; done)
    | exact appendA_stp h
    | (cases h; exact .refl _)
    | (simp only [newA] at h; cases h; exact .new _ _)
    | (cases h; exact .put (by assumption) _)
    | (cases h; exact storeA_stp (by assumption))

/-! ### The whole machine -/

structure EngStp (e : Eng) : Prop where
  call : ∀ {f args s v s'}, e.call f args s = some (v, s') → Stp s s'
  ex : ∀ {ro c ts ds s x ts' ds' s'}, e.ex ro c ts ds s = some (x, ts', ds', s') → Stp s s'

variable {e : Eng}

theorem roundA_stp (he : EngStp e) {r : Nat} {args : List AV} (h : roundA e r args s = some (v, s')) : Stp s s' := by
  unfold roundA at h
  split at h
  case h_2 => cases h
  rename_i g0
  split at h
  case isFalse => cases h
  split at h
  case h_2 => cases h
  rename_i h1
  have n1 := he.ex h1
  split at h
  case h_2 => cases h
  rename_i g1
  split at h
  case h_2 => cases h
  rename_i h2
  have n2 := he.ex h2
  split at h
  case h_2 => cases h
  rename_i g2
  split at h
  all_goals (cases h; exact (n1.trans ((Stp.put g1 _).trans n2)).trans (.put g2 _))

theorem callV_stp (he : EngStp e) {f : AV} {args : List AV} (h : callV e f args s = some (v, s')) : Stp s s' := by
  unfold callV at h
  split at h
  · exact he.call h
  · exact roundA_stp he h
  · cases h

theorem opVal_stp (he : EngStp e) (h : opVal e p ev s = some (v, s')) : Stp s s' := by
  unfold opVal at h
  split at h
  · repeat' split at h
    all_goals first
      | (cases h; done)
      | exact callV_stp he h
  · exact xop_stp h

theorem opStep_stp (he : EngStp e) {p : PO} {ts ts' : Tr AV} (h : opStep e p ts s = some (ts', s')) : Stp s s' := by
  unfold opStep at h
  repeat' split at h
  all_goals first
    | (cases h; done)
    | (cases h; exact .refl _)
    | (cases h; exact opVal_stp he (by assumption))

theorem runOps_stp (he : EngStp e) : ∀ {l : List PO} {ts ts' : Tr AV} {s s' : St}, runOps e l ts s = some (ts', s') → Stp s s'
  | [], _, _, _, _, h => by cases h; exact .refl _
  | p :: r, ts, ts', s, s', h => by
    simp only [runOps] at h
    split at h
    · cases h
    · exact (opStep_stp he (by assumption)).trans (runOps_stp he h)

theorem runSnaps_stp (he : EngStp e) : ∀ {l : List PO} {ts ts' : Tr AV} {s s' : St} {acc out : List St}, runSnaps e l ts s acc = some (ts', s', out) → Stp s s'
  | [], _, _, _, _, _, _, h => by cases h; exact .refl _
  | p :: r, ts, ts', s, s', _, _, h => by
    simp only [runSnaps] at h
    split at h
    · cases h
    · exact (opStep_stp he (by assumption)).trans (runSnaps_stp he h)

theorem takeAll_stp : ∀ {l : List Nat} {s s' : St}, takeAll l s = some s' → Stp s s'
  | [], _, _, h => by cases h; exact .refl _
  | d :: r, s, s', h => by
    simp only [takeAll] at h
    split at h
    · exact (Stp.drop _ _).trans (takeAll_stp h)
    · cases h

theorem rangeA_stp (he : EngStp e) {ro : Option Nat} {f : AV} {params : List Nat} {assign body : PC} {ts ts' : Tr AV} {ds ds' : List Nat} {x : AExit} (h : rangeA e ro f params assign body ts ds s = some (x, ts', ds', s')) : Stp s s' := by
  unfold rangeA at h
  split at h
  case h_2 => cases h
  split at h
  case h_1 => cases h
  rename_i l ds1 s2 h0
  have h1 : Stp s s2 := by
    repeat' split at h0
    all_goals first
      | (cases h0; done)
      | (cases h0; exact .refl _)
      | (cases h0; exact .new _ _)
      | (cases h0; exact (Stp.new _ _).trans (.new _ _))
  split at h
  case h_1 => cases h
  rename_i s3 hc
  have h2 := he.call hc
  split at h
  all_goals first
    | (cases h; done)
    | (cases h; exact (h1.trans h2).trans (.put (by assumption) _))

theorem exStep_stp (he : EngStp e) {ro : Option Nat} {c : PC} {ts ts' : Tr AV} {ds ds' : List Nat} {x : AExit} (h : exStep e ro c ts ds s = some (x, ts', ds', s')) : Stp s s' := by
  cases c with
  | skip => cases h; exact .refl _
  | region ops =>
    simp only [exStep] at h
    split at h
    · cases h; exact runOps_stp he (by assumption)
    · cases h
  | drawn ops looks =>
    simp only [exStep] at h
    split at h
    · split at h
      · cases h; exact runSnaps_stp he (by assumption)
      · cases h
    · cases h
  | seq a b =>
    simp only [exStep] at h
    split at h
    · exact (he.ex (by assumption)).trans (he.ex h)
    · exact he.ex h
  | cond y a b =>
    simp only [exStep] at h
    split at h
    · exact he.ex h
    · exact he.ex h
    · cases h
  | block id a =>
    simp only [exStep] at h
    split at h
    · cases h; exact he.ex (by assumption)
    · exact he.ex h
  | loop a =>
    simp only [exStep] at h
    split at h
    · exact (he.ex (by assumption)).trans (he.ex h)
    · exact he.ex h
  | rangeF f params a b =>
    simp only [exStep] at h
    split at h
    · exact rangeA_stp he h
    · cases h
  | exit id => cases h; exact .refl _
  | ret => cases h; exact .refl _

/-- What is known of functions gives out new numbers alone. -/
def SumsStp (SM : Sums) : Prop := ∀ f g args s v s', SM f = some g → g args s = some (v, s') → Stp s s'
theorem noSums_stp : SumsStp noSums := fun _ _ _ _ _ _ h => by cases h
theorem sumsStp_add {SM : Sums} {f : Nat} {g : List AV → St → Option (AV × St)} (hg : ∀ args s v s', g args s = some (v, s') → Stp s s') (h : SumsStp SM) : SumsStp (addSum SM f g) := by
  intro k g' args s v s' hk
  unfold addSum at hk
  split at hk
  · cases hk; exact hg args s v s'
  · exact h k g' args s v s' hk

theorem callStep_stp {FT : Fns} {SM : Sums} (hS : SumsStp SM) (he : EngStp e) {f : Nat} {args : List AV} (h : callStep FT SM e f args s = some (v, s')) : Stp s s' := by
  unfold callStep at h
  split at h
  · exact hS _ _ _ _ _ _ (by assumption) h
  · split at h
    · cases h
    · split at h
      · unfold finish at h
        repeat' split at h
        all_goals first
          | (cases h; done)
          | (cases h
             exact (he.ex (by assumption)).trans (takeAll_stp (by assumption)))
      · cases h

theorem eng_stp {FT : Fns} {SM : Sums} (hS : SumsStp SM) : ∀ n, EngStp (eng FT SM n)
  | 0 => ⟨fun h => (by cases h), fun h => (by cases h)⟩
  | n + 1 => ⟨fun h => callStep_stp hS (eng_stp hS n) h, fun h => exStep_stp (eng_stp hS n) h⟩
theorem lim_stp {FT : Fns} {SM : Sums} (hS : SumsStp SM) : EngStp (lim FT SM) where
  call h := by
    obtain ⟨n, h⟩ := of_some1 h
    exact (eng_stp hS n).call h
  ex h := by
    obtain ⟨n, h⟩ := of_some1 h
    exact (eng_stp hS n).ex h
theorem Wf.stp {M : Mach} {f : Nat} {l : List AV} {P : AV → St → Prop} (hS : SumsStp M.SM) (h : Wf M f l s P) : Wf M f l s fun v s' => P v s' ∧ Stp s s' := by
  obtain ⟨v, s', h1, h2⟩ := h
  exact ⟨v, s', h1, h2, (lim_stp hS).call h1⟩
end Go.Proofs.YteiiblpnegjjlaaGreat.D
namespace Go.Proofs.YteiiblpnegjjlaaGreat.D
noncomputable section
open Go.RowKit
variable {P : Program} {W : World}
theorem dom_st0 (w : World) : ∀ b o, (st0 w).get b = some o → b < (st0 w).next := fun b o h => by
  obtain ⟨_, _, _, _, _, h3⟩ := get_st0_some h
  exact isCells_lt h3
theorem calls_of_argsD {M : Mach} (hm : P.follows .mixedOrders = true) (hFT : FnsOk P M.FT) (hSM : SumsOk P M.SM) (hSN : SumsNext M.SM) {f : Nat} {Ts : List Ty} (h : ∀ s asg, (∀ b o, s.get b = some o → b < s.next) → ArgsOk s Ts asg → Wf M f asg s fun v _ => v = .bool true)
    {args : List Value} (ha : ArgsOk (st0 W) Ts (args.map (absArg W))) : Calls P f args.toArray W fun e w' => e = .returned (.bool true) ∧ Below W.heap.size W w' :=
  calls_of_W hm hFT hSM hSN (h _ _ (dom_st0 W) ha)
end
end Go.Proofs.YteiiblpnegjjlaaGreat.D
namespace Go.Proofs.YteiiblpnegjjlaaGreat.D
variable {P : Program}

/-- What gives what the machine itself gives may be taken as known. -/
theorem sumsOk_of_eng {FT : Fns} {SM SM' : Sums} (hm : P.follows .mixedOrders = true) (hFT : FnsOk P FT) (hSM : SumsOk P SM) (hSN : SumsNext SM)
    (h : ∀ f g, SM' f = some g → ∀ args s v s', g args s = some (v, s') → ∃ n, (eng FT SM n).call f args s = some (v, s')) : SumsOk P SM' := by
  intro f g hg args s v s' R μ w cargs hx hR hr hc
  obtain ⟨n, hn⟩ := h f g hg args s v s' hx
  exact (eng_sound hm hFT hSM hSN n).call hn hR hr hc

theorem sumsNext_of_eng {FT : Fns} {SM SM' : Sums} (hSN : SumsNext SM)
    (h : ∀ f g, SM' f = some g → ∀ args s v s', g args s = some (v, s') → ∃ n, (eng FT SM n).call f args s = some (v, s')) : SumsNext SM' := by
  intro f g args s v s' hg hx
  obtain ⟨n, hn⟩ := h f g hg args s v s' hx
  exact (eng_next hSN n).call hn

/-! ### crc.step -/

def stepBody : PC := (.seq (.region [⟨some 12, (.bin .lss .no (.t 11) (.c (.int .i64 8))), none⟩]) (.seq (.cond (.t 12) .skip (.exit 0)) (.seq (.block 1 (.seq (.region [⟨some 13, (.move (.t 0)), none⟩, ⟨some 14, (.bin .shr .no (.t 13) (.c (.int .u64 31))), none⟩, ⟨some 5, (.move (.t 14)), none⟩]) (.seq (.region [⟨some 15, (.move (.t 0)), none⟩, ⟨some 16, (.bin .shl .no (.t 15) (.c (.int .u64 1))), none⟩, ⟨some 0, (.move (.t 16)), none⟩]) (.seq (.region [⟨some 17, (.move (.t 5)), none⟩, ⟨some 18, (.bin .eql .no (.t 17) (.c (.int .u32 1))), none⟩]) (.cond (.t 18) (.region [⟨some 19, (.move (.t 0)), none⟩, ⟨some 20, (.bin .xor .no (.t 19) (.c (.int .u32 79764919))), none⟩, ⟨some 0, (.move (.t 20)), none⟩]) .skip))))) (.region [⟨some 21, (.bin .add .no (.t 11) (.c (.int .i64 1))), none⟩, ⟨some 11, (.move (.t 21)), none⟩]))))

def fdStep : FD := ⟨23, [(.tmp 4)], (.seq (.region [⟨some 4, (.move (.c (.int .u32 0))), none⟩]) (.seq (.region [⟨some 6, (.move (.t 0)), none⟩, ⟨some 7, (.move (.t 1)), none⟩, ⟨some 8, (.convInt .u32 (.t 7)), none⟩, ⟨some 9, (.bin .shl .no (.t 8) (.c (.int .u64 24))), none⟩, ⟨some 10, (.bin .xor .no (.t 6) (.t 9)), none⟩, ⟨some 0, (.move (.t 10)), none⟩]) (.seq (.seq (.region [⟨some 11, (.move (.c (.int .i64 0))), none⟩]) (.block 0 (.loop stepBody))) (.seq (.region [⟨some 22, (.move (.t 0)), none⟩, ⟨some 4, (.move (.t 22)), none⟩]) .ret))))⟩

theorem eng_ex {FT : Fns} {SM : Sums} (n : Nat) (ro : Option Nat) (c : PC) (ts : Tr AV) (ds : List Nat) (s : St) : (eng FT SM (n + 1)).ex ro c ts ds s = exStep (eng FT SM n) ro c ts ds s := rfl
theorem eng_call {FT : Fns} {SM : Sums} (n : Nat) (f : Nat) (args : List AV) (s : St) : (eng FT SM (n + 1)).call f args s = callStep FT SM (eng FT SM n) f args s := rfl

/-- One layer more. -/
noncomputable def up (FT : Fns) (SM : Sums) (e : Eng) : Eng := ⟨callStep FT SM e, exStep e⟩
theorem up_ex {FT : Fns} {SM : Sums} (e : Eng) (ro : Option Nat) (c : PC) (ts : Tr AV) (ds : List Nat) (s : St) : (up FT SM e).ex ro c ts ds s = exStep e ro c ts ds s := rfl
theorem up_call {FT : Fns} {SM : Sums} (e : Eng) (f : Nat) (args : List AV) (s : St) : (up FT SM e).call f args s = callStep FT SM e f args s := rfl
theorem eng_up {FT : Fns} {SM : Sums} (n : Nat) : eng FT SM (n + 1) = up FT SM (eng FT SM n) := rfl

theorem u32_wrap {n : Nat} : IntKind.u32.wrap (n : Int) = ((n % 4294967296 : Nat) : Int) := by
  simp [IntKind.wrap, IntKind.signed, IntKind.bits]

theorem xor_u32 {a b : Nat} (ha : a < 4294967296) (hb : b < 4294967296) : IntKind.u32.wrap ((BitVec.ofInt IntKind.u32.bits (a : Int) ^^^ BitVec.ofInt IntKind.u32.bits (b : Int)).toNat : Nat) = ((Nat.xor a b : Nat) : Int) := by
  rw [u32_wrap]
  have h1 : (BitVec.ofInt IntKind.u32.bits (a : Int)).toNat = a := by
    simp [IntKind.bits]; omega
  have h2 : (BitVec.ofInt IntKind.u32.bits (b : Int)).toNat = b := by
    simp [IntKind.bits]; omega
  rw [BitVec.toNat_xor, h1, h2]
  have h3 : a ^^^ b < 2 ^ 32 := Nat.xor_lt_two_pow ha hb
  have : (a ^^^ b) % 4294967296 = a ^^^ b := Nat.mod_eq_of_lt h3
  rw [this]
  rfl

theorem stp_lt {n : Nat} : stp n < 4294967296 := by
  unfold stp
  split
  · exact Nat.xor_lt_two_pow (n := 32) (Nat.mod_lt _ (by omega)) (by omega)
  · exact Nat.mod_lt _ (by omega)

theorem stepBody_run {FT : Fns} {SM : Sums} (k : Nat) {ts : Tr AV} {s : St} {n j : Nat} (h0 : ts.get 0 = some (.int .u32 n)) (h11 : ts.get 11 = some (.int .i64 j)) (hj : j < 8) :
    ∃ ts', (eng FT SM (k + 10)).ex none stepBody ts [] s = some (.normal, ts', [], s) ∧ ts'.get 0 = some (.int .u32 (stp n : Nat)) ∧ ts'.get 11 = some (.int .i64 ((j + 1 : Nat) : Int)) := by
  have hlt : decide ((j : Int) < 8) = true := by simp; omega
  have hsh : ((n : Int).fdiv (2 ^ 31)) = ((n / 2147483648 : Nat) : Int) := by
    rw [Int.fdiv_eq_ediv_of_nonneg _ (by omega)]
    rfl
  have hadd : IntKind.i64.wrap ((j : Int) + 1) = ((j + 1 : Nat) : Int) := by
    simp [IntKind.wrap, IntKind.signed, IntKind.bits]; omega
  have hmul : IntKind.u32.wrap ((n : Int) * 2 ^ 1) = ((n * 2 % 4294967296 : Nat) : Int) := by
    rw [show (n : Int) * 2 ^ 1 = ((n * 2 : Nat) : Int) by omega, u32_wrap]
  have hm1 : min (1 : Int).toNat IntKind.u32.bits = 1 := by decide
  have hm31 : min (31 : Int).toNat IntKind.u32.bits = 31 := by decide
  have hx : IntKind.u32.wrap ((BitVec.ofInt IntKind.u32.bits ((n * 2 % 4294967296 : Nat) : Int) ^^^ BitVec.ofInt IntKind.u32.bits 79764919).toNat : Nat) = ((Nat.xor (n * 2 % 4294967296) 79764919 : Nat) : Int) :=
    xor_u32 (a := n * 2 % 4294967296) (b := 79764919) (Nat.mod_lt _ (by omega)) (by omega)
  by_cases ht : n / 2147483648 = 1
  · have hs : stp n = Nat.xor (n * 2 % 4294967296) 79764919 := by
      unfold stp; rw [ht]
    have hb : (((n / 2147483648 : Nat) : Int) == 1) = true := by rw [ht]; rfl
    simp only [eng_ex, exStep, stepBody, runOps, opStep, wantedA, opVal, xop, evOf, putT, Tr.get_set, h0, h11, binA, intBin, hlt, ↓reduceIte, reduceCtorEq, Nat.reduceEqDiff, hsh, hm1, hm31, hmul, hx, hadd, Int.reduceLT, hb, hs,
      Option.some.injEq, Prod.mk.injEq, true_and, and_true, exists_eq_left']
  · have hs : stp n = n * 2 % 4294967296 := by
      unfold stp
      have : Nat.beq (n / 2147483648) 1 = false := by
        cases hq : Nat.beq (n / 2147483648) 1 with
        | false => rfl
        | true => exact absurd (Nat.eq_of_beq_eq_true hq) ht
      rw [this]
    have hb : (((n / 2147483648 : Nat) : Int) == 1) = false := by simp; omega
    simp only [eng_ex, exStep, stepBody, runOps, opStep, wantedA, opVal, xop, evOf, putT, Tr.get_set, h0, h11, binA, intBin, hlt, ↓reduceIte, reduceCtorEq, Nat.reduceEqDiff, hsh, hm1, hm31, hmul, hadd, Int.reduceLT, hb, hs,
      Option.some.injEq, Prod.mk.injEq, true_and, and_true, exists_eq_left']

theorem stepLoop_run {FT : Fns} {SM : Sums} : ∀ (m k : Nat) {ts : Tr AV} {s : St} {n j : Nat}, ts.get 0 = some (.int .u32 n) → ts.get 11 = some (.int .i64 j) → j + m = 8 →
    ∃ ts', (eng FT SM (k + m + 11)).ex none (.loop stepBody) ts [] s = some (.exit 0, ts', [], s) ∧ ts'.get 0 = some (.int .u32 (stps m n : Nat)) := by
  intro m
  induction m with
  | zero =>
    intro k ts s n j h0 h11 hj
    have hj8 : j = 8 := by omega
    subst hj8
    have hlt : decide (((8 : Nat) : Int) < 8) = false := by decide
    refine ⟨ts.set 12 (.bool false), ?_, ?_⟩
    · simp only [eng_ex, exStep, stepBody, runOps, opStep, wantedA, opVal, xop, evOf, putT, Tr.get_set, h11, binA, intBin, hlt, ↓reduceIte, Nat.add_zero]
    · rw [Tr.get_set, if_neg (by decide), h0]; rfl
  | succ m ih =>
    intro k ts s n j h0 h11 hj
    obtain ⟨ts1, h1, h2, h3⟩ := stepBody_run (FT := FT) (SM := SM) (s := s) (k + m + 1) h0 h11 (by omega)
    obtain ⟨ts2, g1, g2⟩ := ih k (s := s) h2 h3 (by omega)
    refine ⟨ts2, ?_, g2⟩
    rw [show k + (m + 1) + 11 = (k + m + 11) + 1 by omega, eng_ex]
    simp only [exStep]
    rw [show k + m + 11 = k + m + 1 + 10 by omega, h1]
    exact g1

theorem sumStep_run {FT : Fns} {SM : Sums} {f : Nat} (hf : FT f = some fdStep) (hs : SM f = none) {args : List AV} {s s' : St} {v : AV} (h : sumStep args s = some (v, s')) : (eng FT SM 41).call f args s = some (v, s') := by
  unfold sumStep at h
  split at h
  case h_2 => cases h
  rename_i ni ci
  split at h
  case isTrue => cases h
  rename_i hc
  cases h
  obtain ⟨n, rfl⟩ : ∃ n : Nat, ni = n := ⟨ni.toNat, by omega⟩
  obtain ⟨c, rfl⟩ : ∃ c : Nat, ci = c := ⟨ci.toNat, by omega⟩
  have hn : n < 4294967296 := by omega
  have hc' : c < 256 := by omega
  have w1 : IntKind.u32.wrap (c : Int) = (c : Int) := by
    rw [u32_wrap, Nat.mod_eq_of_lt (by omega)]
  obtain ⟨m, hmd⟩ : ∃ m, m = c * 16777216 := ⟨_, rfl⟩
  have w2 : IntKind.u32.wrap ((c : Int) * 2 ^ 24) = (m : Int) := by
    rw [show (c : Int) * 2 ^ 24 = ((c * 16777216 : Nat) : Int) by omega, ← hmd, u32_wrap, Nat.mod_eq_of_lt (by omega)]
  have hm : min (24 : Int).toNat IntKind.u32.bits = 24 := by decide
  have hx := xor_u32 (a := n) (b := m) hn (by omega)
  have hle : Nat.ble 2 23 = true := by decide
  have e1 : crcStep (n : Int).toNat (c : Int).toNat = stps 8 (Nat.xor n m) := by
    rw [hmd]; rfl
  rw [e1]
  clear hmd
  obtain ⟨T, hT⟩ : ∃ T, initT 0 [AV.int .u32 (n : Int), AV.int .u8 (c : Int)] .lf = T := ⟨_, rfl⟩
  have t0 : T.get 0 = some (.int .u32 n) := by rw [← hT, initT_get]; rfl
  have t1 : T.get 1 = some (.int .u8 c) := by rw [← hT, initT_get]; rfl
  obtain ⟨ts1, l1, l2⟩ := stepLoop_run (FT := FT) (SM := SM) 8 16 (s := s) (n := Nat.xor n m) (j := 0)
    (ts := ((((((((T.set 4 (.int .u32 0)).set 6 (.int .u32 n)).set 7 (.int .u8 c)).set 8 (.int .u32 c)).set 9 (.int .u32 (m : Nat))).set 10 (.int .u32 ((Nat.xor n m : Nat) : Int))).set 0 (.int .u32 ((Nat.xor n m : Nat) : Int))).set 11 (.int .i64 0)))
    (by simp [Tr.get_set]) (by simp [Tr.get_set]) rfl
  rw [show (41 : Nat) = 16 + 8 + 11 + 1 + 1 + 1 + 1 + 1 + 1 by rfl]
  simp only [eng_up (16 + 8 + 11 + 1 + 1 + 1 + 1 + 1), eng_up (16 + 8 + 11 + 1 + 1 + 1 + 1), eng_up (16 + 8 + 11 + 1 + 1 + 1), eng_up (16 + 8 + 11 + 1 + 1), eng_up (16 + 8 + 11 + 1), eng_up (16 + 8 + 11)]
  generalize eng FT SM (16 + 8 + 11) = E at l1 ⊢
  generalize stps 8 (Nat.xor n m) = V at l2 ⊢
  clear e1
  have hle : Nat.ble ([AV.int .u32 (n : Int), AV.int .u8 (c : Int)]).length fdStep.ntmps = true := rfl
  simp only [up_call, callStep, hs, hf, hle, if_true, hT]
  clear hT
  unfold fdStep
  generalize PC.loop stepBody = L at l1 ⊢
  simp only [up_ex, exStep, runOps, opStep, wantedA, opVal, xop, evOf, putT, Tr.get_set, t0, t1, reduceCtorEq, Nat.reduceEqDiff, binA, intBin, ↓reduceIte,
    Int.reduceLT, w1, w2, hm, hx, l1, l2, finish, takeAll, ressA, resA, oneA]
end Go.Proofs.YteiiblpnegjjlaaGreat.D
namespace Go.Proofs.YteiiblpnegjjlaaGreat.D
noncomputable section
variable {P : Program} {R : Nat}

abbrev NPost := AExit → Tr AV → List Nat → St → Prop

def NLeft (P : Program) (R : Nat) (μ : Place) (s : St) (w : World) (N : Nat) (Q : NPost) : Exit → Act → World → Prop :=
  fun e a' w' => ∃ x ts' ds' s', Q x ts' ds' s' ∧ Left P R μ s w N x ts' ds' s' e a' w'

theorem NLeft.trans {μ ν : Place} {s s1 : St} {w w1 : World} {N : Nat} {Q : NPost} {e : Exit} {a : Act} {w' : World} (m : Mv μ s w ν s1 w1) (h : NLeft P R ν s1 w1 N Q e a w') : NLeft P R μ s w N Q e a w' := by
  obtain ⟨x, ts', ds', s', h1, h2⟩ := h
  exact ⟨x, ts', ds', s', h1, h2.trans m⟩
theorem NLeft.mono {μ : Place} {s : St} {w : World} {N : Nat} {Q Q' : NPost} {e : Exit} {a : Act} {w' : World} (h : NLeft P R μ s w N Q e a w') (hq : ∀ x ts ds s, Q x ts ds s → Q' x ts ds s) : NLeft P R μ s w N Q' e a w' := by
  obtain ⟨x, ts', ds', s', h1, h2⟩ := h
  exact ⟨x, ts', ds', s', hq _ _ _ _ h1, h2⟩

/-- However a piece of code is left, it is as told. -/
def Nk (P : Program) (R : Nat) (pc : PC) (ts : Tr AV) (ds : List Nat) (s : St) (Q : NPost) : Prop :=
  ∀ (c : Code) (N : Nat) (a : Act) (μ : Place) (w : World) (n : Nat), prepC P c = some pc → okPC N pc = true → HR P R μ s w → TR μ ts a.tmps → a.tmps.size = N → DR μ ds a.defers → c.wpIn Fence.wide n P (NLeft P R μ s w N Q) a w
/-- The same, of a loop with that body. -/
def Nl (P : Program) (R : Nat) (pc : PC) (ts : Tr AV) (ds : List Nat) (s : St) (Q : NPost) : Prop :=
  ∀ (c : Code) (N : Nat) (a : Act) (μ : Place) (w : World) (n : Nat), prepC P c = some pc → okPC N pc = true → HR P R μ s w → TR μ ts a.tmps → a.tmps.size = N → DR μ ds a.defers → LoopIn Fence.wide n P c (NLeft P R μ s w N Q) a w

variable {ts : Tr AV} {ds : List Nat} {s : St} {Q : NPost}

theorem Nk.mono {pc : PC} {Q' : NPost} (h : Nk P R pc ts ds s Q) (hq : ∀ x ts ds s, Q x ts ds s → Q' x ts ds s) : Nk P R pc ts ds s Q' :=
  fun c N a μ w n hp hok h0 ht hN hd => wpIn_mono (h c N a μ w n hp hok h0 ht hN hd) fun _ _ _ hl => hl.mono hq

theorem Nk.of_Wk {M : Mach} (hm : P.follows .mixedOrders = true) (hFT : FnsOk P M.FT) (hSM : SumsOk P M.SM) (hSN : SumsNext M.SM) {pc : PC} (h : Wk M none [] pc ts ds s fun x ts' ds' s' => s'.next ≤ R ∧ Q x ts' ds' s') : Nk P R pc ts ds s Q := by
  obtain ⟨x, ts', ds', s', h1, h2⟩ := h
  rw [Wr_nil] at h2
  intro c N a μ w n hp hok h0 ht hN hd
  obtain ⟨k, hk⟩ := (sup_lim M.FT M.SM).ex _ _ _ _ _ _ h1
  exact wpIn_mono ((eng_sound hm hFT hSM hSN k).ex (ro := none) (F := Fence.wide) hk h2.1 h0 hp hok ht hN hd rfl n) fun e a' w' hl => ⟨x, ts', ds', s', h2.2, hl⟩

theorem prepC_reg {id : Nat} {ops : Array Oper} {draw : Bool} {pc : PC} (h : prepC P (.region id ops draw) = some pc) (h1 : ∀ l, pc ≠ .region l) (h2 : ∀ l k, pc ≠ .drawn l k) : False := by
  simp only [prepC] at h
  split at h
  · cases h
  · split at h
    · split at h
      · simp only [Option.some.injEq] at h; exact h2 _ _ h.symm
      · cases h
    · simp only [Option.some.injEq] at h; exact h1 _ h.symm
theorem prepC_seq {c : Code} {a b : PC} (h : prepC P c = some (.seq a b)) : ∃ c1 c2, c = .seq c1 c2 ∧ prepC P c1 = some a ∧ prepC P c2 = some b := by
  cases c with
  | seq c1 c2 =>
    simp only [prepC] at h
    split at h
    case h_1 => cases h
    rename_i p1 hp1
    split at h
    case h_1 => cases h
    rename_i p2 hp2
    cases h
    exact ⟨_, _, rfl, hp1, hp2⟩
  | region id ops draw => exact (prepC_reg h (by simp) (by simp)).elim
  | _ => exfalso; (unfold prepC at h; (repeat' split at h) <;> cases h)
theorem prepC_block {c : Code} {id : Nat} {a : PC} (h : prepC P c = some (.block id a)) : ∃ c1, c = .block id c1 ∧ prepC P c1 = some a := by
  cases c with
  | block id' c1 =>
    simp only [prepC] at h
    split at h
    case h_1 => cases h
    rename_i p1 hp1
    cases h
    exact ⟨_, rfl, hp1⟩
  | region id ops draw => exact (prepC_reg h (by simp) (by simp)).elim
  | _ => exfalso; (unfold prepC at h; (repeat' split at h) <;> cases h)
theorem prepC_loop {c : Code} {a : PC} (h : prepC P c = some (.loop a)) : ∃ c1, c = .loop c1 ∧ prepC P c1 = some a := by
  cases c with
  | loop c1 =>
    simp only [prepC] at h
    split at h
    case h_1 => cases h
    rename_i p1 hp1
    cases h
    exact ⟨_, rfl, hp1⟩
  | region id ops draw => exact (prepC_reg h (by simp) (by simp)).elim
  | _ => exfalso; (unfold prepC at h; (repeat' split at h) <;> cases h)
theorem prepC_cond {c : Code} {x : X} {a b : PC} (h : prepC P c = some (.cond x a b)) : ∃ o c1 c2, c = .cond o c1 c2 ∧ prepX o = some x ∧ prepC P c1 = some a ∧ prepC P c2 = some b := by
  cases c with
  | cond o c1 c2 =>
    simp only [prepC] at h
    split at h
    case h_1 => cases h
    rename_i z hz
    split at h
    case h_1 => cases h
    rename_i p1 hp1
    split at h
    case h_1 => cases h
    rename_i p2 hp2
    cases h
    exact ⟨_, _, _, rfl, hz, hp1, hp2⟩
  | region id ops draw => exact (prepC_reg h (by simp) (by simp)).elim
  | _ => exfalso; (unfold prepC at h; (repeat' split at h) <;> cases h)
theorem prepC_region {c : Code} {ps : List PO} (h : prepC P c = some (.region ps)) : ∃ id ops, c = .region id ops false ∧ prepPOs P ops.toList ops.toList = some ps := by
  cases c with
  | region id ops draw =>
    simp only [prepC] at h
    split at h
    case h_1 => cases h
    rename_i ps hps
    split at h
    · split at h <;> cases h
    · rename_i hdr
      cases h
      have : draw = false := by simpa using hdr
      subst this
      exact ⟨_, _, rfl, hps⟩
  | _ => exfalso; (unfold prepC at h; (repeat' split at h) <;> cases h)

theorem Nk.seq {a b : PC} (h : Nk P R a ts ds s fun x ts' ds' s' => match x with | .normal => Nk P R b ts' ds' s' Q | x => Q x ts' ds' s') : Nk P R (.seq a b) ts ds s Q := by
  intro c N ac μ w n hp hok h0 ht hN hd
  obtain ⟨c1, c2, rfl, hp1, hp2⟩ := prepC_seq hp
  simp only [okPC, Bool.and_eq_true] at hok
  refine wpIn_seq (wpIn_mono (h c1 N ac μ w n hp1 hok.1 h0 ht hN hd) ?_)
  rintro e a1 w1 ⟨x, ts1, ds1, s1, hq, rfl, ν, g1, g2, g3, g4, g5⟩
  cases x with
  | normal => exact wpIn_mono (hq c2 N a1 ν w1 n hp2 hok.2 g4 g1 g2 g3) fun _ _ _ hl => hl.trans g5
  | exit id => exact ⟨_, _, _, _, hq, rfl, ν, g1, g2, g3, g4, g5⟩
  | ret => exact ⟨_, _, _, _, hq, rfl, ν, g1, g2, g3, g4, g5⟩

theorem Nk.block {id : Nat} {a : PC} (h : Nk P R a ts ds s fun x ts' ds' s' => Q (match x with | .exit id' => if id' = id then .normal else .exit id' | x => x) ts' ds' s') : Nk P R (.block id a) ts ds s Q := by
  intro c N ac μ w n hp hok h0 ht hN hd
  obtain ⟨c1, rfl, hp1⟩ := prepC_block hp
  refine wpIn_block (wpIn_mono (h c1 N ac μ w n hp1 hok h0 ht hN hd) ?_)
  rintro e a1 w1 ⟨x, ts1, ds1, s1, hq, rfl, hl⟩
  cases x with
  | normal => exact ⟨_, _, _, _, hq, rfl, hl⟩
  | ret => exact ⟨_, _, _, _, hq, rfl, hl⟩
  | exit id' =>
    simp only [exitOf, Exit.inBlock]
    by_cases hid : id' = id
    · rw [if_pos hid]
      simp only [if_pos hid] at hq
      exact ⟨_, _, _, _, hq, rfl, hl⟩
    · rw [if_neg hid]
      simp only [if_neg hid] at hq
      exact ⟨_, _, _, _, hq, rfl, hl⟩

theorem Nk.cond {x : X} {a b : PC} {v : Bool} (hv : evOf ts x = some (.bool v)) (h : Nk P R (if v then a else b) ts ds s Q) : Nk P R (.cond x a b) ts ds s Q := by
  intro c N ac μ w n hp hok h0 ht hN hd
  obtain ⟨o, c1, c2, rfl, hx, hp1, hp2⟩ := prepC_cond hp
  simp only [okPC, Bool.and_eq_true] at hok
  have := evR_of ht _ _ _ hx hv
  simp only [conc, Option.some.injEq] at this
  cases v with
  | true => exact wpIn_cond (t := true) this.symm (h c1 N ac μ w n hp1 hok.1 h0 ht hN hd)
  | false => exact wpIn_cond (t := false) this.symm (h c2 N ac μ w n hp2 hok.2 h0 ht hN hd)

theorem Nl.step {a : PC} (h : Nk P R a ts ds s fun x ts' ds' s' => match x with | .normal => Nl P R a ts' ds' s' Q | x => Q x ts' ds' s') : Nl P R a ts ds s Q := by
  intro c N ac μ w n hp hok h0 ht hN hd
  refine LoopIn.step (wpIn_mono (h c N ac μ w n hp hok h0 ht hN hd) ?_)
  rintro e a1 w1 ⟨x, ts1, ds1, s1, hq, rfl, ν, g1, g2, g3, g4, g5⟩
  cases x with
  | normal => exact (hq c N a1 ν w1 n hp hok g4 g1 g2 g3).mono fun _ _ _ hl => hl.trans g5
  | exit id => exact ⟨_, _, _, _, hq, rfl, ν, g1, g2, g3, g4, g5⟩
  | ret => exact ⟨_, _, _, _, hq, rfl, ν, g1, g2, g3, g4, g5⟩

theorem Nk.loop {a : PC} (h : Nl P R a ts ds s Q) : Nk P R (.loop a) ts ds s Q := by
  intro c N ac μ w n hp hok h0 ht hN hd
  obtain ⟨c1, rfl, hp1⟩ := prepC_loop hp
  exact LoopIn.wpIn (h c1 N ac μ w n hp1 hok h0 ht hN hd)

/-- A loop, by what holds at its head. -/
theorem Nl.ind {a : PC} (I : Nat → Tr AV → St → Prop) (step : ∀ n ts s, I n ts s → (∀ m ts' s', m < n → I m ts' s' → Nl P R a ts' ds s' Q) → Nk P R a ts ds s fun x ts' ds' s' => match x with | .normal => Nl P R a ts' ds' s' Q | x => Q x ts' ds' s') :
    ∀ {n ts s}, I n ts s → Nl P R a ts ds s Q := by
  intro n
  induction n using Nat.strongRecOn with
  | ind n ih =>
    intro ts s h
    exact Nl.step (step n ts s h fun m ts' s' hm h' => ih m hm h')

theorem entriesR_mem {μ : Place} : ∀ {es : List (AV × AV × Nat)} {ces : List MapEntry} {c : MapEntry}, entriesR μ es ces → c ∈ ces → ∃ e ∈ es, entryR μ e c
  | [], [], _, _, h => by cases h
  | x :: l, y :: m, c, he, h => by
    rcases List.mem_cons.1 h with rfl | h
    · exact ⟨x, List.mem_cons_self .., he.1⟩
    · obtain ⟨e, h1, h2⟩ := entriesR_mem he.2 h
      exact ⟨e, List.mem_cons_of_mem _ h1, h2⟩
  | [], _ :: _, _, he, _ => he.elim
  | _ :: _, [], _, he, _ => he.elim
theorem entriesR_mem' {μ : Place} : ∀ {es : List (AV × AV × Nat)} {ces : List MapEntry} {e : AV × AV × Nat}, entriesR μ es ces → e ∈ es → ∃ c ∈ ces, entryR μ e c
  | [], [], _, _, h => by cases h
  | x :: l, y :: m, c, he, h => by
    rcases List.mem_cons.1 h with rfl | h
    · exact ⟨y, List.mem_cons_self .., he.1⟩
    · obtain ⟨e, h1, h2⟩ := entriesR_mem' he.2 h
      exact ⟨e, List.mem_cons_of_mem _ h1, h2⟩
  | [], _ :: _, _, he, _ => he.elim
  | _ :: _, [], _, he, _ => he.elim

theorem heap_drew (w : World) : w.drew.heap = w.heap := rfl
theorem prepOp_next {o : Oper} {x : X} (h : (prepOp P o).getD .fail = .next x) : ∃ y, o.op = .next y false ∧ prepX y = some x := by
  cases hp : prepOp P o with
  | none => rw [hp] at h; cases h
  | some q =>
    rw [hp] at h
    simp only [Option.getD_some] at h
    subst h
    cases ho : o.op with
    | next y b =>
      simp only [prepOp, ho] at hp
      cases b with
      | true => cases hp
      | false =>
        simp only [Bool.false_eq_true, if_false, Option.map_eq_some_iff] at hp
        obtain ⟨z, hz, e⟩ := hp
        cases e
        exact ⟨y, rfl, hz⟩
    | call c =>
      exfalso
      simp only [prepOp, ho] at hp
      cases hc : c.callee with
      | value y =>
        rw [hc] at hp
        simp only at hp
        split at hp
        · simp only [Option.map_eq_some_iff] at hp; obtain ⟨_, _, e⟩ := hp; cases e
        · cases hp
      | builtin b =>
        rw [hc] at hp
        simp only at hp
        split at hp
        · unfold prepBuiltin prepAppend prepCopy prepLen prepCap prepClear prepDelete at hp
          repeat' split at hp
          all_goals (cases hp)
        · cases hp
      | invoke a b => rw [hc] at hp; cases hp
    | _ =>
      exfalso
      unfold prepOp at hp
      rw [ho] at hp
      (try dsimp only at hp)
      repeat' split at hp
      all_goals first
        | (cases hp; done)
        | (simp only [Option.map_eq_some_iff] at hp; obtain ⟨_, _, hp⟩ := hp; cases hp; done)
        | (simp_all; done)

/-- A step of a loop over a map, and what is done with it in the same region. -/
theorem Nk.next {M : Mach} (hm : P.follows .mixedOrders = true) (hFT : FnsOk P M.FT) (hSM : SumsOk P M.SM) (hSN : SumsNext M.SM) {d it b r since last clock : Nat} {seen : List Nat} {es : List (AV × AV × Nat)} {ps : List PO}
    (g : ts.get it = some (.ptr b 0)) (hb : s.get b = some (.miter (some r) since seen last)) (hr : s.get r = some (.map es clock)) (hold : ∀ e ∈ es, e.2.2 < since) (hsc : since ≤ last) (hR : s.next ≤ R)
    (h0 : (∀ e ∈ es, seen.contains e.2.2 = true) → Wo M none [] none ps (ts.set d (.tup [.bool false])) ds s fun x ts' ds' s' => s'.next ≤ R ∧ Q x ts' ds' s')
    (h1 : ∀ e ∈ es, seen.contains e.2.2 = false → Wo M none [] none ps (ts.set d (.tup [.bool true, e.1, e.2.1])) ds (s.put b (.miter (some r) since (seen ++ [e.2.2]) clock)) fun x ts' ds' s' => s'.next ≤ R ∧ Q x ts' ds' s') :
    Nk P R (.region (⟨some d, .next (.t it), none⟩ :: ps)) ts ds s Q := by
  intro c N ac μ w n hp hok h0' ht hN hd
  obtain ⟨id, ops, rfl, hps⟩ := prepC_region hp
  refine wpIn_region ?_
  have hlen : ∃ o rest, ops.toList = o :: rest := by
    cases hl : ops.toList with
    | nil => rw [hl] at hps; cases hps
    | cons o rest => exact ⟨o, rest, rfl⟩
  obtain ⟨o, rest, hl⟩ := hlen
  have hps' := hps
  rw [hl] at hps'
  simp only [prepPOs] at hps'
  split at hps'
  case h_2 => cases hps'
  rename_i p hp1
  split at hps'
  case h_2 => cases hps'
  rename_i l hp2
  cases hps'
  obtain ⟨e1, e2⟩ := prepPO_op hp1
  obtain ⟨y, hoy, hyx⟩ := prepOp_next e1
  have hy : y = .tmp it := by
    cases y with
    | tmp t => simp only [prepX, Option.some.injEq, X.t.injEq] at hyx; rw [hyx]
    | const v => simp [prepX] at hyx
    | func f => simp [prepX] at hyx
    | global gg => cases hyx
  subst hy
  have hgd : o.guard = none := by
    cases hg : o.guard with
    | none => rfl
    | some jw =>
      obtain ⟨j, want⟩ := jw
      unfold prepPO at hp1
      rw [hg] at hp1
      simp only at hp1
      split at hp1
      · simp only [Option.some.injEq, PO.mk.injEq] at hp1
        exact absurd hp1.2.2 (by simp)
      · cases hp1
  have hsz : ops.size = rest.length + 1 := by rw [← Array.length_toList, hl]; rfl
  have hi : ∀ i : Nat, (o :: rest)[i]? = ops[i]? := by intro i; rw [← hl]; simp
  have hk0 : ops[0]? = some o := by rw [← hi 0]; rfl
  rw [List.range_eq_range', hsz, List.range'_succ]
  simp only [wpOpsIn, hk0]
  have hw : Region.wanted o (yielded ops ac.tmps) = true := by unfold Region.wanted; rw [hgd]
  rw [hw]
  simp only [if_true]
  refine ⟨fun f _ => trivial, ?_⟩
  rw [Oper.semAt_eq _ _ _ (fun c e => by rw [hoy] at e; cases e)]
  obtain ⟨cv, hcv, hcc⟩ := ht it _ g
  obtain ⟨pb, hpb, rfl⟩ := isSome_of_conc_ptr hcc
  have hev : ac.eval (.tmp it) = .pointer (some ⟨pb.1, 0, none⟩) := by simp [Act.eval, hcv]
  obtain ⟨pb', hpb', m', ⟨qm, hqm, rfl⟩, hit⟩ := h0'.obj _ _ hb
  rw [hpb] at hpb'; cases hpb'
  obtain ⟨ces, hce, her⟩ := h0'.mapAt hr hqm
  have hold' : ∀ x ∈ ces.toList, x.born < since := fun x hx => by
    obtain ⟨e, he, h3⟩ := entriesR_mem her hx
    rw [← h3.2.2]; exact hold e he
  have hexec : execOp ac.eval o = (do pure (.value (← Instr.next (.pointer (some ⟨pb.1, 0, none⟩)) false o.type))) := by
    simp only [execOp, hoy, hev]
  have hops : ops = ops.toList.toArray := by simp
  have hi' : ∀ i : Nat, rest[i]? = ops[0 + 1 + i]? := by
    intro i
    have := hi (i + 1)
    rw [List.getElem?_cons_succ] at this
    rw [this]; congr 1; omega
  have hok1 : okPOs N ps = true := by
    have : okPOs N (⟨some d, .next (.t it), none⟩ :: ps) = true := hok
    simp only [okPOs, Bool.and_eq_true] at this
    exact this.2
  have hdN : d < ac.tmps.size := by
    have : okPOs N (⟨some d, .next (.t it), none⟩ :: ps) = true := hok
    simp only [okPOs, Bool.and_eq_true] at this
    rw [hN]
    simpa using this.1
  have fin : ∀ (v : AV) (cvv : Value) (s1 : St) (w1 : World), conc μ v = some cvv → HR P R μ s1 w1 → Mv μ s w μ s1 w1 →
      (Wo M none [] none ps (ts.set d v) ds s1 fun x ts' ds' s' => s'.next ≤ R ∧ Q x ts' ds' s') → wpOpsIn Fence.wide n P ops (NLeft P R μ s w N Q) (List.range' (0 + 1) rest.length) (ac.put o.dst cvv) w1 := by
    intro v cvv s1 w1 k1 k2 k3 k4
    obtain ⟨ts', s', k5, k6⟩ := k4
    rw [Wr_nil] at k6
    obtain ⟨j, hj⟩ := (cont_runOps ps (ts.set d v) s1).fin _ _ (sup_lim M.FT M.SM) _ k5
    have e2' : o.dst = some d := e2.symm
    refine ops_wpIn (eng_sound hm hFT hSM hSN j) (ro := none) (F := Fence.wide) rest ps (0 + 1) _ _ s1 w1 μ (by rw [hl]; exact hp2) hi' hj k6.1 k2 ?_ (by rw [put_size]; exact hN) hok1 (by rw [put_defers]; exact hd) rfl ?_
    · rw [e2']
      exact ht.putT (d := some d) (fun t e => by cases e; exact hdN) k1
    · intro ξ a' w' u1 u2 u3 u4 u5
      exact ⟨_, _, _, _, k6.2, rfl, ξ, u1, u2, u3, u4, k3.trans u5⟩
  rcases run_next_at (P := P) w o.type pb.1 qm.1 since last seen.toArray ces clock hit hce hold' hsc with ⟨hz, hrun⟩ | ⟨e, he, w1, hw1, hrun⟩
  · rw [hexec]
    simp only [Sem.run_bind, hrun, Result.andThen_ok, Sem.run_pure]
    rw [Oper.uponIn_value]
    refine fin (.tup [.bool false]) _ s w (by simp [conc, concs]) h0' (Mv.refl h0' hR) (h0 fun e he => ?_)
    obtain ⟨cc, hcc, h3⟩ := entriesR_mem' her he
    have hem : leftOf ces seen.toArray = #[] := Array.eq_empty_of_size_eq_zero hz
    unfold leftOf at hem
    rw [Array.filter_eq_empty_iff] at hem
    have := hem cc (by simpa using hcc)
    rw [h3.2.2]
    simpa using this
  · rw [hexec]
    simp only [Sem.run_bind, hrun, Result.andThen_ok, Sem.run_pure]
    rw [Oper.uponIn_value]
    unfold leftOf at he
    simp only [Array.toList_filter, List.mem_filter] at he
    obtain ⟨x, hx, h3⟩ := entriesR_mem her he.1
    have hns : seen.contains x.2.2 = false := by rw [h3.2.2]; simpa using he.2
    have hpl : pb.1 < w.heap.size := (h0'.lt _ _ hpb).1
    have hh1 : w1.heap = w.heap := by rcases hw1 with rfl | rfl <;> rfl
    obtain ⟨t1, t2⟩ := h0'.turn (o' := .miter (some r) since (seen ++ [x.2.2]) clock) (w' := ChangeMaps.setBlock w1 pb.1 (.mapIter (some qm.1) since (seen.toArray.push e.born) clock)) hR hb hpb (by simp)
      ⟨some qm.1, ⟨qm, hqm, rfl⟩, by simp only [ChangeMaps.setBlock, hh1]; rw [h3.2.2, Array.getElem?_setIfInBounds_self_of_lt hpl]; simp⟩
      (by rcases hw1 with rfl | rfl <;> rfl) (by rcases hw1 with rfl | rfl <;> rfl) (by rcases hw1 with rfl | rfl; exact ⟨rfl, fun _ => Nat.le_refl _⟩; exact ⟨rfl, fun _ => Nat.le_succ _⟩) (by simp [ChangeMaps.setBlock, hh1])
      (fun k hk => by simp only [ChangeMaps.setBlock, hh1]; rw [Array.getElem?_setIfInBounds_ne (fun e => hk e.symm)])
    exact fin (.tup [.bool true, x.1, x.2.1]) _ _ _ (by simp [conc, concs, h3.1, h3.2.1]) t1 t2 (h1 x hx hns)

theorem Wo_range {M : Mach} {ro : Option Nat} {k : List Fk} {dr : Dr} {ops : List PO} {Q : Post} {d : Option Nat} {x : X} : Wo M ro k dr (⟨d, .range x, none⟩ :: ops) ts ds s Q = Wx M ro (xop (.range x) (evOf ts) s) d k (dr.push s) ops ts ds Q := Wo_op rfl
theorem Wo_entry {M : Mach} {ro : Option Nat} {k : List Fk} {dr : Dr} {ops : List PO} {Q : Post} {d : Option Nat} {x : X} : Wo M ro k dr (⟨d, .entry x, none⟩ :: ops) ts ds s Q = Wx M ro (xop (.entry x) (evOf ts) s) d k (dr.push s) ops ts ds Q := Wo_op rfl
attribute [go_sem] Wo_range Wo_entry

/-- However a function is left, it is as told. -/
def Nf (P : Program) (R : Nat) (f : Nat) (args : List AV) (s : St) (Q : AV → St → Prop) : Prop :=
  ∀ (μ : Place) (w : World) (cargs : List Value), HR P R μ s w → concs μ args = some cargs → ∀ n, CallsIn Fence.wide n P f cargs.toArray w fun e w' => ∃ v s', Q v s' ∧ Rets P R μ s w v s' e w'

theorem Nf.enter {FT : Fns} (hFT : FnsOk P FT) {f : Nat} {fd : FD} (hf : FT f = some fd) {args : List AV} (hlen : Nat.ble args.length fd.ntmps = true) {Q : AV → St → Prop}
    (h : Nk P R fd.body (initT 0 args .lf) [] s fun x ts ds s1 => s1.next ≤ R ∧ Fin fd.results Q x ts ds s1) : Nf P R f args s Q := by
  intro μ w cargs h0 hc n
  obtain ⟨fn, hfn, hp⟩ := hFT _ _ hf
  obtain ⟨c, hb, hpc, hpr, hname, hok, hnp⟩ := prepF_spec hp
  have hcl := concs_length hc
  have hle := Nat.le_of_ble_eq_true hlen
  have hsz : (cargs.toArray ++ Array.replicate (fn.ntmps - cargs.toArray.size) undef).size = fn.ntmps := by
    simp; omega
  refine callsIn_of_wp_marks hfn hb trivial ?_
  refine wpIn_mono (h c fn.ntmps { tmps := _, defers := [] } μ w n hpc hok h0 (TR.init hc _) hsz (show DR μ [] ([] : List Deferred) from trivial)) ?_
  rintro ex a1 w1 ⟨x, ts, ds, s1, ⟨hR, hne, s2, htk, l, hl, hq⟩, rfl, ν, g1, g2, g3, g4, g5⟩
  have leave : LeavesInM Fence.wide n P fn a1.tmps (fun e w' => ∃ v s', Q v s' ∧ Rets P R μ s w v s' e w') a1.defers .returning w1 := by
    refine leaves_sound htk hR g4 g3 fun w' k1 k2 => ?_
    obtain ⟨cv, r1, r2⟩ := run_results k1 g1 hpr hl
    exact ⟨cv, r1, _, _, hq, ν, r2, k1, g5.trans k2⟩
  cases x with
  | normal => exact leave
  | ret => exact leave
  | exit id => exact (hne _ rfl).elim

theorem St.get_skip (s : St) (k b : Nat) : (s.skip k).get b = s.get b := rfl
theorem St.next_skip (s : St) (k : Nat) : (s.skip k).next = s.next + k := rfl

/-- What a call came to, told without any new block. -/
theorem canon0 {μ : Place} {s s1 : St} {w w' : World} {v : AV} {c : Value} {K : Nat} {v2 : AV} (h0 : HR P R μ s w) (hr : Rets P R μ s w v s1 (.returned c) w') (hf : Fr s s1) (hK : s1.next ≤ s.next + K) (hR : s.next + K ≤ R)
    (hv : ∀ ν : Place, conc ν v = some c → conc ν v2 = some c) : Rets P R μ s w v2 (s.skip K) (.returned c) w' := by
  obtain ⟨ν, h1, h2, h3⟩ := hr
  have hget : ∀ b x, (s.skip K).get b = some x → b < s.next ∧ s1.get b = some x := by
    intro b x hb
    rw [St.get_skip] at hb
    have := h0.dom b x hb
    exact ⟨this, (hf.get b this).trans hb⟩
  refine ⟨ν, hv ν h1, ⟨?_, ?_, ?_, ?_⟩, ⟨h3.le, h3.os, h3.output, h3.tape, h3.size, by simp [St.next_skip], ?_, ?_, h3.frame, ?_⟩⟩
  · intro b x hb
    exact h2.obj b x (hget b x hb).2
  · intro b d x y pb pd hb hd hpb hpd e
    exact h2.inj b d _ _ pb pd (hget b x hb).2 (hget d y hd).2 hpb hpd e
  · intro b z hz
    have := h2.lt _ _ hz
    refine ⟨this.1, ?_⟩
    simp only [St.next_skip]
    omega
  · intro b x hb
    have := (hget b x hb).1
    simp only [St.next_skip]
    omega
  · intro b z hz
    have := (h0.lt _ _ hz).2
    simp only [St.next_skip]
    omega
  · intro b z hz
    rcases h3.fresh b z hz with h4 | ⟨h4, h5, h6⟩
    · exact .inl h4
    · exact .inr ⟨h4, by simp only [St.next_skip]; omega, h6⟩
  · intro b vs l z x hb hx
    obtain ⟨h4, h5⟩ := h3.ro b vs l z x hb hx
    exact ⟨hb, h5⟩

/-- What a call came to, told by one new block alone. -/
theorem canon {μ : Place} {s s1 : St} {w w' : World} {v : AV} {c : Value} {K p : Nat} {o : AObj} {v2 : AV} (h0 : HR P R μ s w) (hr : Rets P R μ s w v s1 (.returned c) w') (hf : Fr s s1) (hK : s1.next ≤ s.next + K) (hR : s.next + K + 1 ≤ R) (hp : s.next ≤ p) (ho : s1.get p = some o)
    (hv : ∀ ν ν' : Place, ν.le ν' → ν' (s.next + K) = ν p → conc ν v = some c → conc ν' v2 = some c) : Rets P R μ s w v2 ((s.skip K).new o) (.returned c) w' := by
  obtain ⟨ν, h1, h2, h3⟩ := hr
  obtain ⟨q, hq, hoq⟩ := h2.obj _ _ ho
  have hnone : ν (s.next + K) = none := by
    cases e : ν (s.next + K) with
    | none => rfl
    | some x => have := (h2.lt _ _ e).2; omega
  have hle : ν.le (ν.add (s.next + K) q) := by
    intro b x hb
    unfold Place.add
    rw [if_neg]
    · exact hb
    · intro e; subst e; rw [hnone] at hb; cases hb
  have hself : (ν.add (s.next + K) q) (s.next + K) = some q := by simp [Place.add]
  have hget : ∀ b x, ((s.skip K).new o).get b = some x → (b = s.next + K ∧ x = o) ∨ (b < s.next ∧ s1.get b = some x ∧ b ≠ s.next + K) := by
    intro b x hb
    rw [St.get_new] at hb
    by_cases e : b = (s.skip K).next
    · rw [if_pos e] at hb; cases hb; exact .inl ⟨e, rfl⟩
    · rw [if_neg e, St.get_skip] at hb
      have := h0.dom b x hb
      exact .inr ⟨this, (hf.get b this).trans hb, e⟩
  have hpn : p < s1.next := h2.dom _ _ ho
  refine ⟨ν.add (s.next + K) q, hv ν _ hle (by rw [hself, hq]) h1, ⟨?_, ?_, ?_, ?_⟩, ⟨Place.le_trans h3.le hle, h3.os, h3.output, h3.tape, h3.size, by simp [St.next_skip]; omega, ?_, ?_, h3.frame, ?_⟩⟩
  · intro b x hb
    rcases hget b x hb with ⟨rfl, rfl⟩ | ⟨_, hb1, _⟩
    · exact ⟨q, hself, hoq.mono hle rfl⟩
    · obtain ⟨y, hy, hyo⟩ := h2.obj b x hb1
      exact ⟨y, hle _ _ hy, hyo.mono hle rfl⟩
  · intro b d x y pb pd hb hd hpb hpd e
    have old : ∀ b x z, b < s.next → s1.get b = some x → b ≠ s.next + K → (ν.add (s.next + K) q) b = some z → ν b = some z := by
      intro b x z _ _ hne hz
      unfold Place.add at hz
      rwa [if_neg hne] at hz
    rcases hget b x hb with ⟨rfl, rfl⟩ | ⟨hbl, hb1, hbn⟩ <;> rcases hget d y hd with ⟨rfl, rfl⟩ | ⟨hdl, hd1, hdn⟩
    · rfl
    · rw [hself] at hpb; cases hpb
      have := h2.inj p d _ _ q pd ho hd1 hq (old _ _ _ hdl hd1 hdn hpd) e
      omega
    · rw [hself] at hpd; cases hpd
      have := h2.inj b p _ _ pb q hb1 ho (old _ _ _ hbl hb1 hbn hpb) hq e
      omega
    · exact h2.inj b d _ _ pb pd hb1 hd1 (old _ _ _ hbl hb1 hbn hpb) (old _ _ _ hdl hd1 hdn hpd) e
  · intro b z hz
    unfold Place.add at hz
    by_cases e : b = s.next + K
    · rw [if_pos e] at hz; cases hz
      refine ⟨(h2.lt _ _ hq).1, .inl ?_⟩
      simp [St.next_skip, e]
    · rw [if_neg e] at hz
      have := h2.lt _ _ hz
      refine ⟨this.1, ?_⟩
      simp [St.next_skip]
      omega
  · intro b x hb
    rcases hget b x hb with ⟨rfl, rfl⟩ | ⟨hbl, _, _⟩
    · simp [St.next_skip]
    · simp [St.next_skip]; omega
  · intro b z hz
    have := (h0.lt _ _ hz).2
    simp [St.next_skip]
    omega
  · intro b z hz
    unfold Place.add at hz
    by_cases e : b = s.next + K
    · rw [if_pos e] at hz; cases hz
      refine .inr ⟨by omega, by simp [St.next_skip, e], ?_⟩
      rcases h3.fresh p q hq with h4 | ⟨_, _, h4⟩
      · have := (h0.lt _ _ h4).2
        omega
      · exact h4
    · rw [if_neg e] at hz
      rcases h3.fresh b z hz with h4 | ⟨h4, h5, h6⟩
      · exact .inl h4
      · exact .inr ⟨h4, by simp [St.next_skip]; omega, h6⟩
  · intro b vs l z x hb hx
    obtain ⟨h4, h5⟩ := h3.ro b vs l z x hb hx
    refine ⟨?_, h5⟩
    have := h0.dom _ _ hb
    rw [St.get_new, if_neg (by simp [St.next_skip]; omega), St.get_skip]
    exact hb

theorem sumsOk_addI {SM : Sums} {f : Nat} {g : List AV → St → Option (AV × St)} (hfn : ∃ fn, P.funcs[f]? = some fn ∧ fn.body.isNone = false ∧ (fn.name == "runtime.NumGoroutine") = false)
    (hg : ∀ {args s v s' R μ w cargs}, g args s = some (v, s') → s'.next ≤ R → HR P R μ s w → concs μ args = some cargs → ∀ n, CallsIn Fence.wide n P f cargs.toArray w (Rets P R μ s w v s')) (h : SumsOk P SM) : SumsOk P (addSum SM f g) := by
  intro k g' hk args s v s' R μ w cargs hx hR hr hc
  unfold addSum at hk
  split at hk
  · rename_i e
    subst e
    cases hk
    exact ⟨hfn, hg hx hR hr hc⟩
  · exact h k g' hk hx hR hr hc
theorem sumsNext_addI {SM : Sums} {f : Nat} {g : List AV → St → Option (AV × St)} (hg : ∀ args s v s', g args s = some (v, s') → s.next ≤ s'.next) (h : SumsNext SM) : SumsNext (addSum SM f g) := by
  intro k g' args s v s' hk hx
  unfold addSum at hk
  split at hk
  · cases hk; exact hg args s v s' hx
  · exact h k g' args s v s' hk hx

/-- What a run came to, told with what is not asked for any more left out, and a new block under another number. -/
inductive Can (s : St) (v1 : AV) (s1 : St) (v : AV) (s' : St) : Prop
  | old (hv : v = v1) (hg : ∀ b o, s'.get b = some o → s1.get b = some o) (hn : s1.next ≤ s'.next) (hro : ∀ b vs l e, s.get b = some (.cells vs l true e) → s'.get b = some (.cells vs l true e))
  | new (t : St) (o : AObj) (p : Nat) (hs : s' = t.new o) (hg : ∀ b o, t.get b = some o → s1.get b = some o) (hn : s1.next ≤ t.next) (hro : ∀ b vs l e, s.get b = some (.cells vs l true e) → t.get b = some (.cells vs l true e))
      (hp : s1.get p = some o) (hpn : s.next ≤ p) (hpt : t.get p = none) (hv : ∀ (ν ν' : Place) (c : Value), ν.le ν' → ν' t.next = ν p → conc ν v1 = some c → conc ν' v = some c)

theorem Rets.can {μ : Place} {s s1 s' : St} {w w' : World} {v v1 : AV} {e : Ending} (h0 : HR P R μ s w) (hr : Rets P R μ s w v1 s1 e w') (hc : Can s v1 s1 v s') (hR : s'.next ≤ R) : Rets P R μ s w v s' e w' := by
  cases e with
  | panicked _ => exact hr.elim
  | outgrown => exact hr.elim
  | returned c =>
  obtain ⟨ν, h1, h2, h3⟩ := hr
  cases hc with
  | old hv hg hn hro =>
    subst hv
    refine ⟨ν, h1, ⟨fun b x hb => h2.obj b x (hg b x hb), fun b d x y pb pd hb hd => h2.inj b d _ _ pb pd (hg b x hb) (hg d y hd), fun b z hz => ?_, fun b x hb => Nat.lt_of_lt_of_le (h2.dom b x (hg b x hb)) hn⟩, ⟨h3.le, h3.os, h3.output, h3.tape, h3.size, Nat.le_trans h3.next hn, ?_, ?_, h3.frame, ?_⟩⟩
    · have := h2.lt _ _ hz; omega
    · intro b z hz
      have := (h0.lt _ _ hz).2; omega
    · intro b z hz
      rcases h3.fresh b z hz with h4 | ⟨h4, h5, h6⟩
      · exact .inl h4
      · exact .inr ⟨h4, by omega, h6⟩
    · intro b vs l z x hb hx
      exact ⟨hro b vs l z hb, (h3.ro b vs l z x hb hx).2⟩
  | new t o p hs hg hn hro hp hpn hpt hv =>
    subst hs
    simp only [St.next_new] at hR
    obtain ⟨q, hq, hoq⟩ := h2.obj _ _ hp
    have hpn1 : p < s1.next := h2.dom _ _ hp
    have hnx := h3.next
    have hnone : ν t.next = none := by
      cases e : ν t.next with
      | none => rfl
      | some x => have := (h2.lt _ _ e).2; omega
    have hle : ν.le (ν.add t.next q) := by
      intro b x hb
      unfold Place.add
      rw [if_neg]
      · exact hb
      · intro e; subst e; rw [hnone] at hb; cases hb
    have hself : (ν.add t.next q) t.next = some q := by simp [Place.add]
    have hget : ∀ b x, (t.new o).get b = some x → (b = t.next ∧ x = o) ∨ (s1.get b = some x ∧ b ≠ t.next ∧ b ≠ p) := by
      intro b x hb
      rw [St.get_new] at hb
      by_cases e : b = t.next
      · rw [if_pos e] at hb; cases hb; exact .inl ⟨e, rfl⟩
      · rw [if_neg e] at hb
        refine .inr ⟨hg b x hb, e, fun e' => ?_⟩
        subst e'; rw [hpt] at hb; cases hb
    have old : ∀ b z, b ≠ t.next → (ν.add t.next q) b = some z → ν b = some z := by
      intro b z hne hz
      unfold Place.add at hz
      rwa [if_neg hne] at hz
    refine ⟨ν.add t.next q, hv ν _ c hle (by rw [hself, hq]) h1, ⟨?_, ?_, ?_, ?_⟩, ⟨Place.le_trans h3.le hle, h3.os, h3.output, h3.tape, h3.size, by simp; omega, ?_, ?_, h3.frame, ?_⟩⟩
    · intro b x hb
      rcases hget b x hb with ⟨rfl, rfl⟩ | ⟨hb1, _, _⟩
      · exact ⟨q, hself, hoq.mono hle rfl⟩
      · obtain ⟨y, hy, hyo⟩ := h2.obj b x hb1
        exact ⟨y, hle _ _ hy, hyo.mono hle rfl⟩
    · intro b d x y pb pd hb hd hpb hpd e
      rcases hget b x hb with ⟨rfl, rfl⟩ | ⟨hb1, hbn, hbp⟩ <;> rcases hget d y hd with ⟨rfl, rfl⟩ | ⟨hd1, hdn, hdp⟩
      · rfl
      · rw [hself] at hpb; cases hpb
        exact absurd (h2.inj p d _ _ q pd hp hd1 hq (old _ _ hdn hpd) e).symm hdp
      · rw [hself] at hpd; cases hpd
        exact absurd (h2.inj b p _ _ pb q hb1 hp (old _ _ hbn hpb) hq e) hbp
      · exact h2.inj b d _ _ pb pd hb1 hd1 (old _ _ hbn hpb) (old _ _ hdn hpd) e
    · intro b z hz
      by_cases e : b = t.next
      · subst e; rw [hself] at hz; cases hz
        exact ⟨(h2.lt _ _ hq).1, .inl (by simp)⟩
      · have := h2.lt _ _ (old _ _ e hz)
        refine ⟨this.1, ?_⟩
        simp; omega
    · intro b x hb
      rcases hget b x hb with ⟨rfl, rfl⟩ | ⟨hb1, _, _⟩
      · simp
      · have := h2.dom _ _ hb1; simp; omega
    · intro b z hz
      have := (h0.lt _ _ hz).2
      simp; omega
    · intro b z hz
      by_cases e : b = t.next
      · subst e; rw [hself] at hz; cases hz
        refine .inr ⟨by omega, by simp, ?_⟩
        rcases h3.fresh p q hq with h4 | ⟨_, _, h4⟩
        · have := (h0.lt _ _ h4).2; omega
        · exact h4
      · rcases h3.fresh b z (old _ _ e hz) with h4 | ⟨h4, h5, h6⟩
        · exact .inl h4
        · exact .inr ⟨h4, by simp; omega, h6⟩
    · intro b vs l z x hb hx
      refine ⟨?_, (h3.ro b vs l z x hb hx).2⟩
      rw [St.get_new, if_neg (by have := h0.dom _ _ hb; omega)]
      exact hro b vs l z hb

/-- What is known of a function by its runs. -/
theorem sumsOk_addW {M : Mach} (hm : P.follows .mixedOrders = true) (hFT : FnsOk P M.FT) (hSM : SumsOk P M.SM) (hSN : SumsNext M.SM) {SM : Sums} {f : Nat} {g : List AV → St → Option (AV × St)}
    (hg : ∀ {args s v s'}, g args s = some (v, s') → (∀ b o, s.get b = some o → b < s.next) → Wf M f args s fun v1 s1 => Can s v1 s1 v s') (h : SumsOk P SM) : SumsOk P (addSum SM f g) := by
  intro k g' hk args s v s' R μ w cargs hx hR hr hc
  unfold addSum at hk
  split at hk
  · rename_i e
    subst e
    cases hk
    obtain ⟨v1, s1, hcall, hcan⟩ := hg hx hr.dom
    obtain ⟨j, hj⟩ := (sup_lim M.FT M.SM).call _ _ _ _ hcall
    have hn1 : s1.next ≤ R := by
      cases hcan with
      | old _ _ hn _ => omega
      | new t o p hs hgg hn _ _ _ _ _ => rw [hs] at hR; simp at hR; omega
    obtain ⟨q1, q2⟩ := (eng_sound hm hFT hSM hSN j).call hj hn1 hr hc
    exact ⟨q1, fun n => (q2 n).mono fun e w' hq => Rets.can hr hq hcan hR⟩
  · exact h k g' hk hx hR hr hc
end
end Go.Proofs.YteiiblpnegjjlaaGreat.D
namespace Go.Proofs.YteiiblpnegjjlaaGreat
open D
theorem prep3 : prepF Tryz.prog Tryz.f3 = some fd3 := by kernel_rfl
theorem prep4 : prepF Tryz.prog Tryz.f4 = some fd4 := by kernel_rfl
theorem prep5 : prepF Tryz.prog Tryz.f5 = some fd5 := by kernel_rfl
theorem prep6 : prepF Tryz.prog Tryz.f6 = some fd6 := by kernel_rfl
theorem prep7 : prepF Tryz.prog Tryz.f7 = some fd7 := by kernel_rfl
theorem prep8 : prepF Tryz.prog Tryz.f8 = some fd8 := by kernel_rfl
theorem prep9 : prepF Tryz.prog Tryz.f9 = some fd9 := by kernel_rfl
theorem prep10 : prepF Tryz.prog Tryz.f10 = some fd10 := by kernel_rfl
theorem prep11 : prepF Tryz.prog Tryz.f11 = some fd11 := by kernel_rfl
theorem prep12 : prepF Tryz.prog Tryz.f12 = some fd12 := by kernel_rfl
theorem prep13 : prepF Tryz.prog Tryz.f13 = some fd13 := by kernel_rfl
theorem prep14 : prepF Tryz.prog Tryz.f14 = some fd14 := by kernel_rfl
theorem prep15 : prepF Tryz.prog Tryz.f15 = some fd15 := by kernel_rfl
theorem prep16 : prepF Tryz.prog Tryz.f16 = some fd16 := by kernel_rfl
theorem prep17 : prepF Tryz.prog Tryz.f17 = some fd17 := by kernel_rfl
theorem prep18 : prepF Tryz.prog Tryz.f18 = some fd18 := by kernel_rfl
theorem prep19 : prepF Tryz.prog Tryz.f19 = some fd19 := by kernel_rfl
theorem prep20 : prepF Tryz.prog Tryz.f20 = some fd20 := by kernel_rfl
theorem prep21 : prepF Tryz.prog Tryz.f21 = some fd21 := by kernel_rfl
theorem prep22 : prepF Tryz.prog Tryz.f22 = some fd22 := by kernel_rfl
theorem prep23 : prepF Tryz.prog Tryz.f23 = some fd23 := by kernel_rfl
theorem prep24 : prepF Tryz.prog Tryz.f24 = some fd24 := by kernel_rfl
theorem prep25 : prepF Tryz.prog Tryz.f25 = some fd25 := by kernel_rfl
theorem prep26 : prepF Tryz.prog Tryz.f26 = some fd26 := by kernel_rfl
theorem prep27 : prepF Tryz.prog Tryz.f27 = some fd27 := by kernel_rfl
theorem prep28 : prepF Tryz.prog Tryz.f28 = some fd28 := by kernel_rfl
theorem prep29 : prepF Tryz.prog Tryz.f29 = some fd29 := by kernel_rfl
theorem prep30 : prepF Tryz.prog Tryz.f30 = some fd30 := by kernel_rfl
theorem prep31 : prepF Tryz.prog Tryz.f31 = some fd31 := by kernel_rfl
theorem prep32 : prepF Tryz.prog Tryz.f32 = some fd32 := by kernel_rfl
theorem prep33 : prepF Tryz.prog Tryz.f33 = some fd33 := by kernel_rfl
theorem prep34 : prepF Tryz.prog Tryz.f34 = some fd34 := by kernel_rfl
theorem prep35 : prepF Tryz.prog Tryz.f35 = some fd35 := by kernel_rfl
theorem prep36 : prepF Tryz.prog Tryz.f36 = some fd36 := by kernel_rfl
theorem prep37 : prepF Tryz.prog Tryz.f37 = some fd37 := by kernel_rfl
theorem prep38 : prepF Tryz.prog Tryz.f38 = some fd38 := by kernel_rfl
theorem prep39 : prepF Tryz.prog Tryz.f39 = some fd39 := by kernel_rfl
theorem prep40 : prepF Tryz.prog Tryz.f40 = some fd40 := by kernel_rfl
theorem prep41 : prepF Tryz.prog Tryz.f41 = some fd41 := by kernel_rfl
theorem prep42 : prepF Tryz.prog Tryz.f42 = some fd42 := by kernel_rfl
theorem prep43 : prepF Tryz.prog Tryz.f43 = some fd43 := by kernel_rfl
theorem prep44 : prepF Tryz.prog Tryz.f44 = some fd44 := by kernel_rfl
theorem prep45 : prepF Tryz.prog Tryz.f45 = some fd45 := by kernel_rfl
theorem prep46 : prepF Tryz.prog Tryz.f46 = some fd46 := by kernel_rfl
theorem prep47 : prepF Tryz.prog Tryz.f47 = some fd47 := by kernel_rfl
theorem prep48 : prepF Tryz.prog Tryz.f48 = some fd48 := by kernel_rfl
theorem prep49 : prepF Tryz.prog Tryz.f49 = some fd49 := by kernel_rfl
theorem prep50 : prepF Tryz.prog Tryz.f50 = some fd50 := by kernel_rfl
theorem prep51 : prepF Tryz.prog Tryz.f51 = some fd51 := by kernel_rfl
theorem prep52 : prepF Tryz.prog Tryz.f52 = some fd52 := by kernel_rfl
theorem prep53 : prepF Tryz.prog Tryz.f53 = some fd53 := by kernel_rfl
theorem prep54 : prepF Tryz.prog Tryz.f54 = some fd54 := by kernel_rfl
theorem prep55 : prepF Tryz.prog Tryz.f55 = some fd55 := by kernel_rfl
theorem prep56 : prepF Tryz.prog Tryz.f56 = some fd56 := by kernel_rfl
theorem prep57 : prepF Tryz.prog Tryz.f57 = some fd57 := by kernel_rfl
theorem prep58 : prepF Tryz.prog Tryz.f58 = some fd58 := by kernel_rfl
theorem prep59 : prepF Tryz.prog Tryz.f59 = some fd59 := by kernel_rfl
theorem prep60 : prepF Tryz.prog Tryz.f60 = some fd60 := by kernel_rfl
theorem prep61 : prepF Tryz.prog Tryz.f61 = some fd61 := by kernel_rfl
theorem prep62 : prepF Tryz.prog Tryz.f62 = some fd62 := by kernel_rfl
theorem prep63 : prepF Tryz.prog Tryz.f63 = some fd63 := by kernel_rfl
theorem prep74 : prepF Tryz.prog Tryz.f74 = some fd74 := by kernel_rfl
theorem prep75 : prepF Tryz.prog Tryz.f75 = some fd75 := by kernel_rfl
theorem prep76 : prepF Tryz.prog Tryz.f76 = some fd76 := by kernel_rfl
theorem prep77 : prepF Tryz.prog Tryz.f77 = some fd77 := by kernel_rfl
theorem prep78 : prepF Tryz.prog Tryz.f78 = some fd78 := by kernel_rfl
theorem prep79 : prepF Tryz.prog Tryz.f79 = some fd79 := by kernel_rfl
theorem prep80 : prepF Tryz.prog Tryz.f80 = some fd80 := by kernel_rfl
theorem prep81 : prepF Tryz.prog Tryz.f81 = some fd81 := by kernel_rfl
theorem prep94 : prepF Tryz.prog Tryz.f94 = some fd94 := by kernel_rfl
theorem prep95 : prepF Tryz.prog Tryz.f95 = some fd95 := by kernel_rfl
end Go.Proofs.YteiiblpnegjjlaaGreat
namespace Go.Proofs.YteiiblpnegjjlaaGreat
open D
theorem prep96 : prepF Tryz.prog Tryz.f96 = some fd96 := by kernel_rfl
theorem prep104 : prepF Tryz.prog Tryz.f104 = some fd104 := by kernel_rfl
theorem prep105 : prepF Tryz.prog Tryz.f105 = some fd105 := by kernel_rfl
theorem prep106 : prepF Tryz.prog Tryz.f106 = some fd106 := by kernel_rfl
theorem prep107 : prepF Tryz.prog Tryz.f107 = some fd107 := by kernel_rfl
theorem prep108 : prepF Tryz.prog Tryz.f108 = some fd108 := by kernel_rfl
theorem prep109 : prepF Tryz.prog Tryz.f109 = some fd109 := by kernel_rfl
theorem prep110 : prepF Tryz.prog Tryz.f110 = some fd110 := by kernel_rfl
theorem prep111 : prepF Tryz.prog Tryz.f111 = some fd111 := by kernel_rfl
theorem prep112 : prepF Tryz.prog Tryz.f112 = some fd112 := by kernel_rfl
theorem prep113 : prepF Tryz.prog Tryz.f113 = some fd113 := by kernel_rfl
theorem prep114 : prepF Tryz.prog Tryz.f114 = some fd114 := by kernel_rfl
theorem prep116 : prepF Tryz.prog Tryz.f116 = some fd116 := by kernel_rfl
theorem prep118 : prepF Tryz.prog Tryz.f118 = some fd118 := by kernel_rfl
theorem prep120 : prepF Tryz.prog Tryz.f120 = some fd120 := by kernel_rfl
theorem prep128 : prepF Tryz.prog Tryz.f128 = some fd128 := by kernel_rfl
theorem prep140 : prepF Tryz.prog Tryz.f140 = some fd140 := by kernel_rfl
theorem prep143 : prepF Tryz.prog Tryz.f143 = some fd143 := by kernel_rfl
theorem prep152 : prepF Tryz.prog Tryz.f152 = some fd152 := by kernel_rfl
theorem prep153 : prepF Tryz.prog Tryz.f153 = some fd153 := by kernel_rfl
theorem prep154 : prepF Tryz.prog Tryz.f154 = some fd154 := by kernel_rfl
theorem prep155 : prepF Tryz.prog Tryz.f155 = some fd155 := by kernel_rfl
theorem prep156 : prepF Tryz.prog Tryz.f156 = some fd156 := by kernel_rfl
theorem prep157 : prepF Tryz.prog Tryz.f157 = some fd157 := by kernel_rfl
theorem prep158 : prepF Tryz.prog Tryz.f158 = some fd158 := by kernel_rfl
theorem prep159 : prepF Tryz.prog Tryz.f159 = some fd159 := by kernel_rfl
theorem prep160 : prepF Tryz.prog Tryz.f160 = some fd160 := by kernel_rfl
theorem prep161 : prepF Tryz.prog Tryz.f161 = some fd161 := by kernel_rfl
theorem prep162 : prepF Tryz.prog Tryz.f162 = some fd162 := by kernel_rfl
theorem prep163 : prepF Tryz.prog Tryz.f163 = some fd163 := by kernel_rfl
theorem prep164 : prepF Tryz.prog Tryz.f164 = some fd164 := by kernel_rfl
theorem prep165 : prepF Tryz.prog Tryz.f165 = some fd165 := by kernel_rfl
theorem prep167 : prepF Tryz.prog Tryz.f167 = some fd167 := by kernel_rfl
theorem prep169 : prepF Tryz.prog Tryz.f169 = some fd169 := by kernel_rfl
theorem prep170 : prepF Tryz.prog Tryz.f170 = some fd170 := by kernel_rfl
theorem prep173 : prepF Tryz.prog Tryz.f173 = some fd173 := by kernel_rfl
theorem prep174 : prepF Tryz.prog Tryz.f174 = some fd174 := by kernel_rfl
theorem prep179 : prepF Tryz.prog Tryz.f179 = some fd179 := by kernel_rfl
theorem prep180 : prepF Tryz.prog Tryz.f180 = some fd180 := by kernel_rfl
theorem prep197 : prepF Tryz.prog Tryz.f197 = some fd197 := by kernel_rfl
theorem prep207 : prepF Tryz.prog Tryz.f207 = some fd207 := by kernel_rfl
theorem prep210 : prepF Tryz.prog Tryz.f210 = some fd210 := by kernel_rfl
theorem prep211 : prepF Tryz.prog Tryz.f211 = some fd211 := by kernel_rfl
theorem prep212 : prepF Tryz.prog Tryz.f212 = some fd212 := by kernel_rfl
theorem prep213 : prepF Tryz.prog Tryz.f213 = some fd213 := by kernel_rfl
theorem prep214 : prepF Tryz.prog Tryz.f214 = some fd214 := by kernel_rfl
theorem prep215 : prepF Tryz.prog Tryz.f215 = some fd215 := by kernel_rfl
theorem prep216 : prepF Tryz.prog Tryz.f216 = some fd216 := by kernel_rfl
theorem prep217 : prepF Tryz.prog Tryz.f217 = some fd217 := by kernel_rfl
theorem prep218 : prepF Tryz.prog Tryz.f218 = some fd218 := by kernel_rfl
theorem prep219 : prepF Tryz.prog Tryz.f219 = some fd219 := by kernel_rfl
theorem prep220 : prepF Tryz.prog Tryz.f220 = some fd220 := by kernel_rfl
theorem prep223 : prepF Tryz.prog Tryz.f223 = some fd223 := by kernel_rfl
theorem prep226 : prepF Tryz.prog Tryz.f226 = some fd226 := by kernel_rfl
theorem prep227 : prepF Tryz.prog Tryz.f227 = some fd227 := by kernel_rfl
theorem prep228 : prepF Tryz.prog Tryz.f228 = some fd228 := by kernel_rfl
theorem prep233 : prepF Tryz.prog Tryz.f233 = some fd233 := by kernel_rfl
theorem prep234 : prepF Tryz.prog Tryz.f234 = some fd234 := by kernel_rfl
theorem prep243 : prepF Tryz.prog Tryz.f243 = some fd243 := by kernel_rfl
theorem prep248 : prepF Tryz.prog Tryz.f248 = some fd248 := by kernel_rfl
theorem prep260 : prepF Tryz.prog Tryz.f260 = some fd260 := by kernel_rfl
theorem prep261 : prepF Tryz.prog Tryz.f261 = some fd261 := by kernel_rfl
end Go.Proofs.YteiiblpnegjjlaaGreat
namespace Go.Proofs.YteiiblpnegjjlaaGreat
open D
theorem prep262 : prepF Tryz.prog Tryz.f262 = some fd262 := by kernel_rfl
theorem prep263 : prepF Tryz.prog Tryz.f263 = some fd263 := by kernel_rfl
theorem prep269 : prepF Tryz.prog Tryz.f269 = some fd269 := by kernel_rfl
theorem prep271 : prepF Tryz.prog Tryz.f271 = some fd271 := by kernel_rfl
theorem prep275 : prepF Tryz.prog Tryz.f275 = some fd275 := by kernel_rfl
theorem prep282 : prepF Tryz.prog Tryz.f282 = some fd282 := by kernel_rfl
theorem prep289 : prepF Tryz.prog Tryz.f289 = some fd289 := by kernel_rfl
theorem prep290 : prepF Tryz.prog Tryz.f290 = some fd290 := by kernel_rfl
theorem prep295 : prepF Tryz.prog Tryz.f295 = some fd295 := by kernel_rfl
theorem prep296 : prepF Tryz.prog Tryz.f296 = some fd296 := by kernel_rfl
theorem prep297 : prepF Tryz.prog Tryz.f297 = some fd297 := by kernel_rfl
theorem prep302 : prepF Tryz.prog Tryz.f302 = some fd302 := by kernel_rfl
theorem prep303 : prepF Tryz.prog Tryz.f303 = some fd303 := by kernel_rfl
theorem prep315 : prepF Tryz.prog Tryz.f315 = some fd315 := by kernel_rfl
theorem prep320 : prepF Tryz.prog Tryz.f320 = some fd320 := by kernel_rfl
theorem prep321 : prepF Tryz.prog Tryz.f321 = some fd321 := by kernel_rfl
theorem prep323 : prepF Tryz.prog Tryz.f323 = some fd323 := by kernel_rfl
theorem prep325 : prepF Tryz.prog Tryz.f325 = some fd325 := by kernel_rfl
theorem prep355 : prepF Tryz.prog Tryz.f355 = some fd355 := by kernel_rfl
end Go.Proofs.YteiiblpnegjjlaaGreat
namespace Go.Proofs.YteiiblpnegjjlaaGreat
open D
theorem tab_ok : FnsOk Tryz.prog tab.get := ((((((((((((((((((((((((((((((((((((((((((((((((((((((((((((((((((((((((((((((((((((((((((((((((((((((((((((((((((((((((((((((((((((((((((((((((((((((((fnsOk_lf.set Tryz.func3 prep3).set Tryz.func4 prep4).set Tryz.func5 prep5).set Tryz.func6 prep6).set Tryz.func7 prep7).set Tryz.func8 prep8).set Tryz.func9 prep9).set Tryz.func10 prep10).set Tryz.func11 prep11).set Tryz.func12 prep12).set Tryz.func13 prep13).set Tryz.func14 prep14).set Tryz.func15 prep15).set Tryz.func16 prep16).set Tryz.func17 prep17).set Tryz.func18 prep18).set Tryz.func19 prep19).set Tryz.func20 prep20).set Tryz.func21 prep21).set Tryz.func22 prep22).set Tryz.func23 prep23).set Tryz.func24 prep24).set Tryz.func25 prep25).set Tryz.func26 prep26).set Tryz.func27 prep27).set Tryz.func28 prep28).set Tryz.func29 prep29).set Tryz.func30 prep30).set Tryz.func31 prep31).set Tryz.func32 prep32).set Tryz.func33 prep33).set Tryz.func34 prep34).set Tryz.func35 prep35).set Tryz.func36 prep36).set Tryz.func37 prep37).set Tryz.func38 prep38).set Tryz.func39 prep39).set Tryz.func40 prep40).set Tryz.func41 prep41).set Tryz.func42 prep42).set Tryz.func43 prep43).set Tryz.func44 prep44).set Tryz.func45 prep45).set Tryz.func46 prep46).set Tryz.func47 prep47).set Tryz.func48 prep48).set Tryz.func49 prep49).set Tryz.func50 prep50).set Tryz.func51 prep51).set Tryz.func52 prep52).set Tryz.func53 prep53).set Tryz.func54 prep54).set Tryz.func55 prep55).set Tryz.func56 prep56).set Tryz.func57 prep57).set Tryz.func58 prep58).set Tryz.func59 prep59).set Tryz.func60 prep60).set Tryz.func61 prep61).set Tryz.func62 prep62).set Tryz.func63 prep63).set Tryz.func74 prep74).set Tryz.func75 prep75).set Tryz.func76 prep76).set Tryz.func77 prep77).set Tryz.func78 prep78).set Tryz.func79 prep79).set Tryz.func80 prep80).set Tryz.func81 prep81).set Tryz.func94 prep94).set Tryz.func95 prep95).set Tryz.func96 prep96).set Tryz.func104 prep104).set Tryz.func105 prep105).set Tryz.func106 prep106).set Tryz.func107 prep107).set Tryz.func108 prep108).set Tryz.func109 prep109).set Tryz.func110 prep110).set Tryz.func111 prep111).set Tryz.func112 prep112).set Tryz.func113 prep113).set Tryz.func114 prep114).set Tryz.func116 prep116).set Tryz.func118 prep118).set Tryz.func120 prep120).set Tryz.func128 prep128).set Tryz.func140 prep140).set Tryz.func143 prep143).set Tryz.func152 prep152).set Tryz.func153 prep153).set Tryz.func154 prep154).set Tryz.func155 prep155).set Tryz.func156 prep156).set Tryz.func157 prep157).set Tryz.func158 prep158).set Tryz.func159 prep159).set Tryz.func160 prep160).set Tryz.func161 prep161).set Tryz.func162 prep162).set Tryz.func163 prep163).set Tryz.func164 prep164).set Tryz.func165 prep165).set Tryz.func167 prep167).set Tryz.func169 prep169).set Tryz.func170 prep170).set Tryz.func173 prep173).set Tryz.func174 prep174).set Tryz.func179 prep179).set Tryz.func180 prep180).set Tryz.func197 prep197).set Tryz.func207 prep207).set Tryz.func210 prep210).set Tryz.func211 prep211).set Tryz.func212 prep212).set Tryz.func213 prep213).set Tryz.func214 prep214).set Tryz.func215 prep215).set Tryz.func216 prep216).set Tryz.func217 prep217).set Tryz.func218 prep218).set Tryz.func219 prep219).set Tryz.func220 prep220).set Tryz.func223 prep223).set Tryz.func226 prep226).set Tryz.func227 prep227).set Tryz.func228 prep228).set Tryz.func233 prep233).set Tryz.func234 prep234).set Tryz.func243 prep243).set Tryz.func248 prep248).set Tryz.func260 prep260).set Tryz.func261 prep261).set Tryz.func262 prep262).set Tryz.func263 prep263).set Tryz.func269 prep269).set Tryz.func271 prep271).set Tryz.func275 prep275).set Tryz.func282 prep282).set Tryz.func289 prep289).set Tryz.func290 prep290).set Tryz.func295 prep295).set Tryz.func296 prep296).set Tryz.func297 prep297).set Tryz.func302 prep302).set Tryz.func303 prep303).set Tryz.func315 prep315).set Tryz.func320 prep320).set Tryz.func321 prep321).set Tryz.func323 prep323).set Tryz.func325 prep325).set Tryz.func355 prep355)
end Go.Proofs.YteiiblpnegjjlaaGreat
namespace Go.Proofs.YteiiblpnegjjlaaGreat.Base
open D
theorem mm_mixed : Tryz.prog.follows .mixedOrders = true := by kernel_rfl
theorem step_is : tab.get 282 = some fdStep := by kernel_rfl
theorem SM1_of : ∀ f g, SM1 f = some g → ∀ args s v s', g args s = some (v, s') → ∃ n, (eng tab.get noSums n).call f args s = some (v, s') := by
  intro f g hg args s v s' hx
  unfold SM1 addSum at hg
  split at hg
  · rename_i e
    subst e
    cases hg
    exact ⟨41, sumStep_run step_is rfl hx⟩
  · cases hg
noncomputable def mm : Mach := ⟨tab.get, SM1⟩
set_option maxRecDepth 1000000 in
theorem mm_ft : FnsOk Tryz.prog mm.FT := tab_ok
set_option maxRecDepth 1000000 in
theorem mm_sm : SumsOk Tryz.prog mm.SM := sumsOk_of_eng mm_mixed tab_ok noSums_ok noSums_next SM1_of
theorem mm_sn : SumsNext mm.SM := sumsNext_of_eng noSums_next SM1_of
theorem sm {f : Nat} (h : f ≠ 282) : mm.SM f = none := addSum_ne h
theorem step_eq (args : List AV) (s : St) : mm.L.call 282 args s = sumStep args s := by
  rw [lim_call]
  unfold callStep
  rw [show mm.SM 282 = some sumStep by show addSum noSums 282 sumStep 282 = _; exact addSum_eq]
theorem of_Wf {f : Nat} {l : List AV} {s s' : St} {v : AV} (h : Wf mm f l s fun v1 s1 => v1 = v ∧ s1 = s') : mm.L.call f l s = some (v, s') := by
  obtain ⟨v1, s1, h, rfl, rfl⟩ := h; exact h
theorem call_of_eng {f fuel : Nat} {a : List AV} {s s' : St} {v : AV} (h : (eng mm.FT mm.SM fuel).call f a s = some (v, s')) : mm.L.call f a s = some (v, s') := ((sup_lim mm.FT mm.SM).le fuel).call f a s _ h
theorem ft3 : mm.FT 3 = some fd3 := by kernel_rfl
theorem ft4 : mm.FT 4 = some fd4 := by kernel_rfl
theorem ft5 : mm.FT 5 = some fd5 := by kernel_rfl
theorem ft6 : mm.FT 6 = some fd6 := by kernel_rfl
theorem ft7 : mm.FT 7 = some fd7 := by kernel_rfl
theorem ft8 : mm.FT 8 = some fd8 := by kernel_rfl
theorem ft9 : mm.FT 9 = some fd9 := by kernel_rfl
theorem ft10 : mm.FT 10 = some fd10 := by kernel_rfl
theorem ft11 : mm.FT 11 = some fd11 := by kernel_rfl
theorem ft12 : mm.FT 12 = some fd12 := by kernel_rfl
theorem ft13 : mm.FT 13 = some fd13 := by kernel_rfl
theorem ft14 : mm.FT 14 = some fd14 := by kernel_rfl
theorem ft15 : mm.FT 15 = some fd15 := by kernel_rfl
theorem ft16 : mm.FT 16 = some fd16 := by kernel_rfl
theorem ft17 : mm.FT 17 = some fd17 := by kernel_rfl
theorem ft18 : mm.FT 18 = some fd18 := by kernel_rfl
theorem ft19 : mm.FT 19 = some fd19 := by kernel_rfl
theorem ft20 : mm.FT 20 = some fd20 := by kernel_rfl
theorem ft21 : mm.FT 21 = some fd21 := by kernel_rfl
theorem ft22 : mm.FT 22 = some fd22 := by kernel_rfl
theorem ft23 : mm.FT 23 = some fd23 := by kernel_rfl
theorem ft24 : mm.FT 24 = some fd24 := by kernel_rfl
theorem ft25 : mm.FT 25 = some fd25 := by kernel_rfl
theorem ft26 : mm.FT 26 = some fd26 := by kernel_rfl
theorem ft27 : mm.FT 27 = some fd27 := by kernel_rfl
theorem ft28 : mm.FT 28 = some fd28 := by kernel_rfl
theorem ft29 : mm.FT 29 = some fd29 := by kernel_rfl
theorem ft30 : mm.FT 30 = some fd30 := by kernel_rfl
theorem ft31 : mm.FT 31 = some fd31 := by kernel_rfl
theorem ft32 : mm.FT 32 = some fd32 := by kernel_rfl
theorem ft33 : mm.FT 33 = some fd33 := by kernel_rfl
theorem ft34 : mm.FT 34 = some fd34 := by kernel_rfl
theorem ft35 : mm.FT 35 = some fd35 := by kernel_rfl
theorem ft36 : mm.FT 36 = some fd36 := by kernel_rfl
theorem ft37 : mm.FT 37 = some fd37 := by kernel_rfl
theorem ft38 : mm.FT 38 = some fd38 := by kernel_rfl
theorem ft39 : mm.FT 39 = some fd39 := by kernel_rfl
theorem ft40 : mm.FT 40 = some fd40 := by kernel_rfl
theorem ft41 : mm.FT 41 = some fd41 := by kernel_rfl
theorem ft42 : mm.FT 42 = some fd42 := by kernel_rfl
theorem ft43 : mm.FT 43 = some fd43 := by kernel_rfl
theorem ft44 : mm.FT 44 = some fd44 := by kernel_rfl
theorem ft45 : mm.FT 45 = some fd45 := by kernel_rfl
theorem ft46 : mm.FT 46 = some fd46 := by kernel_rfl
theorem ft47 : mm.FT 47 = some fd47 := by kernel_rfl
theorem ft48 : mm.FT 48 = some fd48 := by kernel_rfl
theorem ft49 : mm.FT 49 = some fd49 := by kernel_rfl
theorem ft50 : mm.FT 50 = some fd50 := by kernel_rfl
theorem ft51 : mm.FT 51 = some fd51 := by kernel_rfl
theorem ft52 : mm.FT 52 = some fd52 := by kernel_rfl
theorem ft53 : mm.FT 53 = some fd53 := by kernel_rfl
theorem ft54 : mm.FT 54 = some fd54 := by kernel_rfl
theorem ft55 : mm.FT 55 = some fd55 := by kernel_rfl
theorem ft56 : mm.FT 56 = some fd56 := by kernel_rfl
theorem ft57 : mm.FT 57 = some fd57 := by kernel_rfl
theorem ft58 : mm.FT 58 = some fd58 := by kernel_rfl
theorem ft59 : mm.FT 59 = some fd59 := by kernel_rfl
theorem ft60 : mm.FT 60 = some fd60 := by kernel_rfl
theorem ft61 : mm.FT 61 = some fd61 := by kernel_rfl
theorem ft62 : mm.FT 62 = some fd62 := by kernel_rfl
theorem ft63 : mm.FT 63 = some fd63 := by kernel_rfl
theorem ft74 : mm.FT 74 = some fd74 := by kernel_rfl
theorem ft75 : mm.FT 75 = some fd75 := by kernel_rfl
theorem ft76 : mm.FT 76 = some fd76 := by kernel_rfl
theorem ft77 : mm.FT 77 = some fd77 := by kernel_rfl
theorem ft78 : mm.FT 78 = some fd78 := by kernel_rfl
theorem ft79 : mm.FT 79 = some fd79 := by kernel_rfl
theorem ft80 : mm.FT 80 = some fd80 := by kernel_rfl
theorem ft81 : mm.FT 81 = some fd81 := by kernel_rfl
theorem ft94 : mm.FT 94 = some fd94 := by kernel_rfl
theorem ft95 : mm.FT 95 = some fd95 := by kernel_rfl
theorem ft96 : mm.FT 96 = some fd96 := by kernel_rfl
theorem ft104 : mm.FT 104 = some fd104 := by kernel_rfl
theorem ft105 : mm.FT 105 = some fd105 := by kernel_rfl
theorem ft106 : mm.FT 106 = some fd106 := by kernel_rfl
theorem ft107 : mm.FT 107 = some fd107 := by kernel_rfl
theorem ft108 : mm.FT 108 = some fd108 := by kernel_rfl
theorem ft109 : mm.FT 109 = some fd109 := by kernel_rfl
theorem ft110 : mm.FT 110 = some fd110 := by kernel_rfl
theorem ft111 : mm.FT 111 = some fd111 := by kernel_rfl
theorem ft112 : mm.FT 112 = some fd112 := by kernel_rfl
theorem ft113 : mm.FT 113 = some fd113 := by kernel_rfl
theorem ft114 : mm.FT 114 = some fd114 := by kernel_rfl
theorem ft116 : mm.FT 116 = some fd116 := by kernel_rfl
theorem ft118 : mm.FT 118 = some fd118 := by kernel_rfl
theorem ft120 : mm.FT 120 = some fd120 := by kernel_rfl
theorem ft128 : mm.FT 128 = some fd128 := by kernel_rfl
theorem ft140 : mm.FT 140 = some fd140 := by kernel_rfl
theorem ft143 : mm.FT 143 = some fd143 := by kernel_rfl
theorem ft152 : mm.FT 152 = some fd152 := by kernel_rfl
theorem ft153 : mm.FT 153 = some fd153 := by kernel_rfl
theorem ft154 : mm.FT 154 = some fd154 := by kernel_rfl
theorem ft155 : mm.FT 155 = some fd155 := by kernel_rfl
theorem ft156 : mm.FT 156 = some fd156 := by kernel_rfl
theorem ft157 : mm.FT 157 = some fd157 := by kernel_rfl
theorem ft158 : mm.FT 158 = some fd158 := by kernel_rfl
theorem ft159 : mm.FT 159 = some fd159 := by kernel_rfl
theorem ft160 : mm.FT 160 = some fd160 := by kernel_rfl
theorem ft161 : mm.FT 161 = some fd161 := by kernel_rfl
theorem ft162 : mm.FT 162 = some fd162 := by kernel_rfl
theorem ft163 : mm.FT 163 = some fd163 := by kernel_rfl
theorem ft164 : mm.FT 164 = some fd164 := by kernel_rfl
theorem ft165 : mm.FT 165 = some fd165 := by kernel_rfl
theorem ft167 : mm.FT 167 = some fd167 := by kernel_rfl
theorem ft169 : mm.FT 169 = some fd169 := by kernel_rfl
theorem ft170 : mm.FT 170 = some fd170 := by kernel_rfl
theorem ft173 : mm.FT 173 = some fd173 := by kernel_rfl
theorem ft174 : mm.FT 174 = some fd174 := by kernel_rfl
theorem ft179 : mm.FT 179 = some fd179 := by kernel_rfl
theorem ft180 : mm.FT 180 = some fd180 := by kernel_rfl
theorem ft197 : mm.FT 197 = some fd197 := by kernel_rfl
theorem ft207 : mm.FT 207 = some fd207 := by kernel_rfl
theorem ft210 : mm.FT 210 = some fd210 := by kernel_rfl
theorem ft211 : mm.FT 211 = some fd211 := by kernel_rfl
theorem ft212 : mm.FT 212 = some fd212 := by kernel_rfl
theorem ft213 : mm.FT 213 = some fd213 := by kernel_rfl
theorem ft214 : mm.FT 214 = some fd214 := by kernel_rfl
theorem ft215 : mm.FT 215 = some fd215 := by kernel_rfl
theorem ft216 : mm.FT 216 = some fd216 := by kernel_rfl
theorem ft217 : mm.FT 217 = some fd217 := by kernel_rfl
theorem ft218 : mm.FT 218 = some fd218 := by kernel_rfl
theorem ft219 : mm.FT 219 = some fd219 := by kernel_rfl
theorem ft220 : mm.FT 220 = some fd220 := by kernel_rfl
theorem ft223 : mm.FT 223 = some fd223 := by kernel_rfl
theorem ft226 : mm.FT 226 = some fd226 := by kernel_rfl
theorem ft227 : mm.FT 227 = some fd227 := by kernel_rfl
theorem ft228 : mm.FT 228 = some fd228 := by kernel_rfl
theorem ft233 : mm.FT 233 = some fd233 := by kernel_rfl
theorem ft234 : mm.FT 234 = some fd234 := by kernel_rfl
theorem ft243 : mm.FT 243 = some fd243 := by kernel_rfl
theorem ft248 : mm.FT 248 = some fd248 := by kernel_rfl
theorem ft260 : mm.FT 260 = some fd260 := by kernel_rfl
theorem ft261 : mm.FT 261 = some fd261 := by kernel_rfl
theorem ft262 : mm.FT 262 = some fd262 := by kernel_rfl
theorem ft263 : mm.FT 263 = some fd263 := by kernel_rfl
theorem ft269 : mm.FT 269 = some fd269 := by kernel_rfl
theorem ft271 : mm.FT 271 = some fd271 := by kernel_rfl
theorem ft275 : mm.FT 275 = some fd275 := by kernel_rfl
theorem ft282 : mm.FT 282 = some fd282 := by kernel_rfl
theorem ft289 : mm.FT 289 = some fd289 := by kernel_rfl
theorem ft290 : mm.FT 290 = some fd290 := by kernel_rfl
theorem ft295 : mm.FT 295 = some fd295 := by kernel_rfl
theorem ft296 : mm.FT 296 = some fd296 := by kernel_rfl
theorem ft297 : mm.FT 297 = some fd297 := by kernel_rfl
theorem ft302 : mm.FT 302 = some fd302 := by kernel_rfl
theorem ft303 : mm.FT 303 = some fd303 := by kernel_rfl
theorem ft315 : mm.FT 315 = some fd315 := by kernel_rfl
theorem ft320 : mm.FT 320 = some fd320 := by kernel_rfl
theorem ft321 : mm.FT 321 = some fd321 := by kernel_rfl
theorem ft323 : mm.FT 323 = some fd323 := by kernel_rfl
theorem ft325 : mm.FT 325 = some fd325 := by kernel_rfl
theorem ft355 : mm.FT 355 = some fd355 := by kernel_rfl
end Go.Proofs.YteiiblpnegjjlaaGreat.Base
