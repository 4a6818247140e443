/- The memory that a law finds, as the abstract machine's; and what its arguments hold, by their types. Plain laws; no program. -/
import Derived.Test.YteffppdkofdmdaaDW
import GoSem.ClaimChange
namespace Go.Proofs.Yteffppdkofdmdaa.D
noncomputable section
open Go.RowKit
variable {P : Program}

def isCells (w : World) (b : Nat) : Bool :=
  match w.heap[b]? with
  | some (.cells ..) => true
  | _ => false

/-- A value of the memory that a law finds; what isn't read stays as it is. -/
def absA (w : World) (v : Value) : AV :=
  match v with
  | .bool b => .bool b
  | .int k n => .int k n
  | .string s => .str s
  | .pointer none => .nilPtr
  | .pointer (some ⟨b, o, none⟩) => if isCells w b then .ptr b o else .raw (.pointer (some ⟨b, o, none⟩))
  | .slice none 0 0 => .nilSlice
  | .slice (some ⟨b, o, none⟩) len cap => if isCells w b then .slice b o len cap false else .raw (.slice (some ⟨b, o, none⟩) len cap)
  | v => .raw v

def mu0 (w : World) : Place := fun b => if isCells w b then some (b, 0) else none

theorem mu0_some {w : World} {b : Nat} (h : isCells w b = true) : mu0 w b = some (b, 0) := if_pos h

theorem conc_absA (w : World) (v : Value) : conc (mu0 w) (absA w v) = some v := by
  unfold absA
  split
  · rfl
  · rfl
  · rfl
  · rfl
  · split
    · rename_i h; simp [conc, mu0_some h]
    · rfl
  · rfl
  · split
    · rename_i h; simp [conc, mu0_some h]
    · rfl
  · rfl

theorem concs_absA (w : World) : ∀ l : List Value, concs (mu0 w) (l.map (absA w)) = some l
  | [] => rfl
  | v :: r => by simp [concs, conc_absA, concs_absA w r]

def st0 (w : World) : St where
  heap := .lf
  base b := match w.heap[b]? with
    | some (.cells c _ _) => some (.cells (c.toList.map (absA w)) false true 0)
    | _ => none
  next := w.heap.size

theorem get_st0 (w : World) (b : Nat) : (st0 w).get b = match w.heap[b]? with
    | some (.cells c _ _) => some (.cells (c.toList.map (absA w)) false true 0)
    | _ => none := by
  unfold St.get
  show (match (Tr.lf : Tr (Option AObj)).get b with | some o => o | none => (st0 w).base b) = _
  rw [Tr.get_lf]
  rfl

theorem get_st0_some {w : World} {b : Nat} {o : AObj} (h : (st0 w).get b = some o) : ∃ c e fz, w.heap[b]? = some (.cells c e fz) ∧ o = .cells (c.toList.map (absA w)) false true 0 ∧ isCells w b = true := by
  rw [get_st0] at h
  split at h
  · rename_i c e fz hc
    cases h
    exact ⟨c, e, fz, hc, rfl, by unfold isCells; rw [hc]⟩
  · cases h

theorem isCells_lt {w : World} {b : Nat} (h : isCells w b = true) : b < w.heap.size := by
  unfold isCells at h
  split at h
  · rename_i hc
    exact (Array.getElem?_eq_some_iff.1 hc).1
  · cases h

theorem hr0 (R : Nat) (w : World) : HR P R (mu0 w) (st0 w) w where
  obj b o h := by
    obtain ⟨c, e, fz, h1, rfl, h3⟩ := get_st0_some h
    exact ⟨(b, 0), mu0_some h3, c, e, fz, c.toList, [], h1, concs_absA w _, by simp, by simp, fun _ => rfl, fun h => by cases h⟩
  inj b c o o' p q h1 h2 hp hq e := by
    obtain ⟨_, _, _, _, _, h3⟩ := get_st0_some h1
    obtain ⟨_, _, _, _, _, h4⟩ := get_st0_some h2
    rw [mu0_some h3] at hp; cases hp
    rw [mu0_some h4] at hq; cases hq
    exact e
  lt b p h := by
    unfold mu0 at h
    split at h
    · rename_i hb
      cases h
      exact ⟨isCells_lt hb, .inl (isCells_lt hb)⟩
    · cases h
  dom b o h := by
    obtain ⟨_, _, _, _, _, h3⟩ := get_st0_some h
    exact isCells_lt h3

theorem below0 {w w' : World} {ν : Place} {s' : St} (h : Mv (mu0 w) (st0 w) w ν s' w') : Below w.heap.size w w' where
  os := h.os
  tape := h.tape
  output := h.output
  size := h.size
  block k hk := by
    by_cases hc : isCells w k = true
    · have : ∃ c, (st0 w).get k = some (.cells c false true 0) := by
        have hc' := hc
        unfold isCells at hc'
        split at hc'
        · rename_i hx; rw [get_st0, hx]; exact ⟨_, rfl⟩
        · cases hc'
      obtain ⟨c, hg⟩ := this
      exact (h.ro k c false 0 (k, 0) hg (mu0_some hc)).2
    · refine h.frame k hk fun b p _ hb => ?_
      unfold mu0 at hb
      split at hb
      · rename_i hb'
        cases hb
        intro e
        exact hc (by have : b = k := e; rw [← this]; exact hb')
      · cases hb

/-- A run of the abstract machine over what a law finds is a run of the law. -/
theorem calls_of_W {M : Mach} (hm : P.follows .mixedOrders = true) (hFT : FnsOk P M.FT) (hSM : SumsOk P M.SM) (hSN : SumsNext M.SM) {f : Nat} {args : List Value} {w : World}
    (h : Wf M f (args.map (fun v => match v with | .agg cs => .agg (cs.toList.map (absA w)) | v => absA w v)) (st0 w) fun v _ => v = .bool true) :
    Calls P f args.toArray w fun e w' => e = .returned (.bool true) ∧ Below w.heap.size w w' := by
  obtain ⟨v, s', hx, rfl⟩ := h
  obtain ⟨n, hn⟩ := (sup_lim M.FT M.SM).call _ _ _ _ hx
  have hc : ∀ l : List Value, concs (mu0 w) (l.map (fun v => match v with | .agg cs => .agg (cs.toList.map (absA w)) | v => absA w v)) = some l := by
    intro l
    induction l with
    | nil => rfl
    | cons v r ih =>
      simp only [List.map_cons, concs, ih, Option.map_some]
      cases v with
      | agg cs => simp [conc, concs_absA]
      | _ => simp only [conc_absA, Option.bind_some]
  have := ((eng_sound hm hFT hSM hSN n).call hn (Nat.le_refl _) (hr0 s'.next w) (hc args)).2 0
  refine callsIn_wide.1 (this.mono ?_)
  intro e w' hr
  cases e with
  | returned c =>
    obtain ⟨ν, h1, _, h3⟩ := hr
    simp only [conc, Option.some.injEq] at h1
    subst h1
    exact ⟨rfl, below0 h3⟩
  | panicked _ => exact hr.elim
  | outgrown => exact hr.elim

/-! ### What arguments hold -/

inductive Ty where
  | bool
  | int (k : IntKind)
  | str
  | slice (e : Ty)
  | many (l : List Ty)

mutual
def Ty.size : Ty → Nat
  | .many l => sizes l
  | _ => 1
def sizes : List Ty → Nat
  | [] => 0
  | t :: r => t.size + sizes r
end

mutual
/-- Cells that hold a value of a type. -/
def Ok (s : St) : Ty → List AV → Prop
  | .bool, l => ∃ b, l = [.bool b]
  | .int k, l => ∃ n, l = [.int k n] ∧ k.min ≤ n ∧ n ≤ k.max
  | .str, l => ∃ x : ByteArray, l = [.str x] ∧ x.size ≤ maxLen
  | .slice e, l => l = [.nilSlice] ∨ (∃ a, l = [.raw (.slice a 0 0)]) ∨ ∃ b o len cap vs, l = [.slice b o len cap false] ∧ len ≤ cap ∧ cap ≤ maxLen ∧ s.get b = some (.cells vs false true 0) ∧ b < s.next ∧
      (0 < cap → o + cap * e.size ≤ vs.length) ∧ ∀ i, i < cap → Ok s e ((vs.drop (o + i * e.size)).take e.size)
  | .many ts, l => OkAll s ts l
def OkAll (s : St) : List Ty → List AV → Prop
  | [], l => l = []
  | t :: ts, l => ∃ a b, l = a ++ b ∧ Ok s t a ∧ OkAll s ts b
end

section
variable (P)
def tyFs (tf : TypeId → Option Ty) : List Field → Nat → Option (List Ty)
  | [], _ => some []
  | f :: r, off => match tf f.type with
    | none => none
    | some T => if f.offset == off && T.size == P.cellsOf f.type then match tyFs tf r (off + T.size) with
      | some l => some (T :: l)
      | none => none
    else none

def tyOf : Nat → TypeId → Option Ty
  | 0, _ => none
  | d + 1, t => match P.underlying t with
    | some .bool => some .bool
    | some (.int k) => some (.int k)
    | some .string => some .str
    | some (.slice e) => match tyOf d e with
      | some T => if T.size == P.cellsOf e && Nat.ble 1 T.size then some (.slice T) else none
      | none => none
    | some (.struct fs) => match tyFs P (tyOf d) fs.toList 0 with
      | some l => if sizes l == P.cellsOf t then some (.many l) else none
      | none => none
    | some (.array n e) => match tyOf d e with
      | some T => if T.size == P.cellsOf e && n * T.size == P.cellsOf t then some (.many (List.replicate n T)) else none
      | none => none
    | _ => none
end

theorem mapM_some {α β : Type} {f : α → Option β} : ∀ {l : List α} {r : List β}, l.mapM f = some r → ∀ x ∈ l, ∃ y, f x = some y
  | [], _, _, x, hx => by cases hx
  | a :: l, r, h, x, hx => by
    simp only [List.mapM_cons, Option.bind_eq_bind, Option.bind_eq_some_iff] at h
    obtain ⟨y, h1, z, h2, _⟩ := h
    cases hx with
    | head => exact ⟨y, h1⟩
    | tail _ hx => exact mapM_some h2 x hx

theorem mapM_get {α β : Type} {f : α → Option β} : ∀ {l : List α} {r : List β}, l.mapM f = some r → r.length = l.length ∧ ∀ i (hi : i < l.length), ∃ y, f l[i] = some y ∧ r[i]? = some y
  | [], r, h => by
    simp only [List.mapM_nil, Option.pure_def, Option.some.injEq] at h
    subst h
    exact ⟨rfl, fun i hi => by simp at hi⟩
  | a :: l, r, h => by
    simp only [List.mapM_cons, Option.bind_eq_bind, Option.bind_eq_some_iff, Option.pure_def, Option.some.injEq] at h
    obtain ⟨y, h1, z, h2, rfl⟩ := h
    obtain ⟨g1, g2⟩ := mapM_get h2
    refine ⟨by simp [g1], fun i hi => ?_⟩
    cases i with
    | zero => exact ⟨y, h1, rfl⟩
    | succ i => obtain ⟨u, u1, u2⟩ := g2 i (by simpa using hi); exact ⟨u, by simpa using u1, by simpa using u2⟩

theorem cell_read {w : World} {b o : Nat} {sp : Option Nat} {y : Value} (hy : w.cell? ⟨b, o, sp⟩ = some y) : sp = none ∧ ∃ c e fz, w.heap[b]? = some (.cells c e fz) ∧ c[o]? = some y := by
  unfold World.cell? at hy
  split at hy
  · rename_i c e fz hc
    cases sp with
    | none => exact ⟨rfl, c, e, fz, hc, by simpa using hy⟩
    | some x => simp at hy
  · cases hy

/-- Cells that are read from an address on. -/
theorem cells_read {w : World} {b o n : Nat} {sp : Option Nat} {cs : List Value} (hn : 0 < n) (h : w.cells? 0 ⟨b, o, sp⟩ n = some cs) :
    sp = none ∧ ∃ c e fz, w.heap[b]? = some (.cells c e fz) ∧ o + n ≤ c.size ∧ cs = (c.toList.drop o).take n := by
  unfold World.cells? at h
  rw [if_pos (Nat.zero_le _)] at h
  obtain ⟨g1, g2⟩ := mapM_get h
  obtain ⟨y0, hy0, _⟩ := g2 0 (by simpa using hn)
  obtain ⟨rfl, c, e, fz, hc, _⟩ := cell_read (by simpa [Addr.add] using hy0)
  have cellOf : ∀ i, i < n → ∃ y, c[o + i]? = some y ∧ cs[i]? = some y := by
    intro i hi
    obtain ⟨y, h1, h2⟩ := g2 i (by simpa using hi)
    have h1' : w.cell? ⟨b, o + i, none⟩ = some y := by
      rw [List.getElem_range] at h1
      unfold Addr.add at h1
      split at h1
      · rename_i hz; subst hz; exact h1
      · exact h1
    obtain ⟨_, c', _, _, hc', hcc⟩ := cell_read h1'
    rw [hc] at hc'; cases hc'
    exact ⟨y, hcc, h2⟩
  refine ⟨rfl, c, e, fz, hc, ?_, ?_⟩
  · obtain ⟨y, hcc, _⟩ := cellOf (n - 1) (by omega)
    have := (Array.getElem?_eq_some_iff.1 hcc).1
    omega
  · apply List.ext_getElem?
    intro i
    by_cases hi : i < n
    · obtain ⟨y, hcc, hy'⟩ := cellOf i hi
      rw [hy', List.getElem?_take, if_pos hi, List.getElem?_drop]
      simpa using hcc.symm
    · rw [List.getElem?_take, if_neg hi]
      exact List.getElem?_eq_none (by rw [g1]; simp; omega)

theorem sizes_replicate (n : Nat) (T : Ty) : sizes (List.replicate n T) = n * T.size := by
  induction n with
  | zero => simp [sizes]
  | succ n ih => simp [List.replicate_succ, sizes, ih, Nat.succ_mul]; omega

section
variable {H : Type} {enc : TypeId × Value → H} {w : World}

/-- What reading a value of a type has shown. -/
def Shown (P : Program) (enc : TypeId × Value → H) (w : World) (d : Nat) : Prop :=
  ∀ (t : TypeId) (T : Ty) (fuel : Nat) (cs : List Value) (r : DataW H × List MemPlace), tyOf P d t = some T → DataW.trod enc P w 0 (fun _ => true) true fuel t cs = some r → cs.length = T.size ∧ Ok (st0 w) T (cs.map (absA w))

theorem fields_ok {d fuel : Nat} (ih : Shown P enc w d) {cs : List Value} : ∀ {fs : List Field} {off : Nat} {l : List Ty}, tyFs P (tyOf P d) fs off = some l →
    (∀ f ∈ fs, ∃ y, DataW.trod enc P w 0 (fun _ => true) true fuel f.type ((cs.drop f.offset).take (P.cellsOf f.type)) = some y) → off + sizes l = cs.length → OkAll (st0 w) l ((cs.drop off).map (absA w))
  | [], off, l, h, _, hs => by
    simp only [tyFs, Option.some.injEq] at h
    subst h
    simp only [sizes, Nat.add_zero] at hs
    simp [OkAll, hs]
  | f :: fs, off, l, h, ha, hs => by
    simp only [tyFs] at h
    split at h
    case h_1 => cases h
    rename_i T hT
    split at h
    case isFalse => cases h
    rename_i hc
    simp only [Bool.and_eq_true, beq_iff_eq] at hc
    split at h
    case h_2 => cases h
    rename_i l' hl'
    cases h
    obtain ⟨y, hy⟩ := ha f (List.mem_cons_self ..)
    obtain ⟨h1, h2⟩ := ih _ _ _ _ _ hT hy
    simp only [sizes] at hs
    have h3 := fields_ok ih hl' (fun g hg => ha g (List.mem_cons_of_mem _ hg)) (by omega)
    rw [hc.1, ← hc.2] at h2
    refine ⟨_, _, ?_, h2, h3⟩
    rw [← List.map_append]
    congr 1
    rw [← List.drop_drop, List.take_append_drop]

theorem elems_ok {d fuel n e : Nat} (ih : Shown P enc w d) {T : Ty} (hT : tyOf P d e = some T) (hz : T.size = P.cellsOf e) {cs : List Value}
    (ha : ∀ i, i < n → ∃ y, DataW.trod enc P w 0 (fun _ => true) true fuel e ((cs.drop (i * P.cellsOf e)).take (P.cellsOf e)) = some y) (hs : n * T.size = cs.length) :
    ∀ m k, k + m = n → OkAll (st0 w) (List.replicate m T) ((cs.drop (k * T.size)).map (absA w))
  | 0, k, hk => by
    have : k = n := by omega
    subst this
    simp [OkAll, hs]
  | m + 1, k, hk => by
    obtain ⟨y, hy⟩ := ha k (by omega)
    obtain ⟨h1, h2⟩ := ih _ _ _ _ _ hT hy
    have h3 := elems_ok ih hT hz ha hs m (k + 1) (by omega)
    rw [← hz] at h2
    refine ⟨_, _, ?_, h2, h3⟩
    rw [← List.map_append]
    congr 1
    rw [Nat.succ_mul, ← List.drop_drop, List.take_append_drop]

theorem shown : ∀ d, Shown P enc w d
  | 0 => fun t T fuel cs r hT _ => by cases hT
  | d + 1 => by
    intro t T fuel cs r hT hr
    have ih := shown d
    cases fuel with
    | zero => simp [DataW.trod] at hr
    | succ fuel =>
      simp only [tyOf] at hT
      split at hT
      · rename_i hu
        cases hT
        unfold DataW.trod at hr
        rw [hu] at hr
        split at hr <;> simp_all [Ty.size, Ok, absA]
      · rename_i k hu
        cases hT
        unfold DataW.trod at hr
        rw [hu] at hr
        split at hr <;> simp_all [Ty.size, Ok, absA, Lit.wf]
      · rename_i hu
        cases hT
        unfold DataW.trod at hr
        rw [hu] at hr
        split at hr <;> simp_all [Ty.size, Ok, absA]
      · rename_i e hu
        split at hT
        case h_2 => cases hT
        rename_i E hE
        split at hT
        case isFalse => cases hT
        rename_i hc
        simp only [Bool.and_eq_true, beq_iff_eq] at hc
        obtain ⟨hc1, hc2⟩ := hc
        have hc3 : 1 ≤ E.size := Nat.le_of_ble_eq_true hc2
        cases hT
        unfold DataW.trod at hr
        rw [hu] at hr
        split at hr
        all_goals try (rename_i h _; cases h; done)
        all_goals try (rename_i h; cases h; done)
        all_goals try (cases hr; done)
        · exact ⟨rfl, .inl rfl⟩
        · rename_i e' a len cap he
          cases he
          dsimp only at hr
          split at hr
          case isFalse => cases hr
          rename_i hlc
          simp only [Option.bind_eq_some_iff, Option.map_eq_some_iff, if_true] at hr
          obtain ⟨elems, hel, rest, hre, _⟩ := hr
          have hat : ∀ i, i < cap → ∃ cs', w.cells? 0 (a.add (i * P.cellsOf e)) (P.cellsOf e) = some cs' ∧ ∃ y, DataW.trod enc P w 0 (fun _ => true) true fuel e cs' = some y := by
            intro i hi
            by_cases hil : i < len
            · obtain ⟨y, hy⟩ := mapM_some hel i (by simpa using hil)
              simp only [Option.bind_eq_some_iff] at hy
              obtain ⟨cs', h1, h2⟩ := hy
              exact ⟨cs', h1, y, h2⟩
            · obtain ⟨y, hy⟩ := mapM_some hre (i - len) (by simp; omega)
              simp only [Option.bind_eq_some_iff] at hy
              obtain ⟨cs', h1, h2⟩ := hy
              rw [show len + (i - len) = i by omega] at h1
              exact ⟨cs', h1, y, h2⟩
          refine ⟨rfl, ?_⟩
          obtain ⟨b, o, sp⟩ := a
          by_cases hcap : cap = 0
          · subst hcap
            have : len = 0 := by omega
            subst this
            cases sp with
            | some x => exact .inr (.inl ⟨_, rfl⟩)
            | none =>
              cases hb : isCells w b with
              | false =>
                refine .inr (.inl ⟨some ⟨b, o, none⟩, ?_⟩)
                simp [absA, hb]
              | true =>
                have hb' := hb
                unfold isCells at hb
                split at hb
                · rename_i c el fz hx
                  refine .inr (.inr ⟨b, o, 0, 0, c.toList.map (absA w), by simp [absA, hb'], Nat.le_refl _, hlc.2.2, by rw [get_st0, hx], isCells_lt hb', fun h => by omega, fun i hi => by omega⟩)
                · cases hb
          · obtain ⟨cs0, h0, _⟩ := hat 0 (by omega)
            rw [Nat.zero_mul] at h0
            obtain ⟨rfl, c, el, fz, hx, _, _⟩ := cells_read (by omega) (show w.cells? 0 ⟨b, o, sp⟩ (P.cellsOf e) = some cs0 from h0)
            have hb : isCells w b = true := by unfold isCells; rw [hx]
            have row : ∀ i, i < cap → o + i * E.size + E.size ≤ c.size ∧ Ok (st0 w) E ((((c.toList.map (absA w)).drop (o + i * E.size)).take E.size)) := by
              intro i hi
              obtain ⟨cs', h1, y, h2⟩ := hat i hi
              have e1 : (⟨b, o, none⟩ : Addr).add (i * P.cellsOf e) = ⟨b, o + i * P.cellsOf e, none⟩ := by
                unfold Addr.add
                split
                · rename_i hz; rw [hz]; rfl
                · rfl
              rw [e1] at h1
              obtain ⟨_, c', _, _, hx', hle, rfl⟩ := cells_read (by omega) h1
              rw [hx] at hx'; cases hx'
              obtain ⟨_, g2⟩ := ih _ _ _ _ _ hE h2
              rw [← hc1] at hle g2
              refine ⟨hle, ?_⟩
              rw [List.map_take, List.map_drop] at g2
              exact g2
            refine .inr (.inr ⟨b, o, len, cap, c.toList.map (absA w), by simp [absA, hb], hlc.2.1, hlc.2.2, by rw [get_st0, hx], isCells_lt hb, fun _ => ?_, fun i hi => (row i hi).2⟩)
            have := (row (cap - 1) (by omega)).1
            have hm : cap * E.size = (cap - 1) * E.size + E.size := by
              rw [← Nat.succ_mul]; congr 1; omega
            simp; omega
      · rename_i fs hu
        split at hT
        case h_2 => cases hT
        rename_i l hl
        split at hT
        case isFalse => cases hT
        rename_i hc
        simp only [beq_iff_eq] at hc
        cases hT
        unfold DataW.trod at hr
        rw [hu] at hr
        split at hr
        all_goals try (rename_i h _; cases h; done)
        all_goals try (rename_i h; cases h; done)
        all_goals try (cases hr; done)
        all_goals try (exact (‹∀ fs' : Array Field, some (TypeDesc.struct fs) = some (TypeDesc.struct fs') → False› fs rfl).elim)
        rename_i fs' _ he
        cases he
        split at hr
        case isFalse => cases hr
        rename_i hlen
        simp only [Option.map_eq_some_iff] at hr
        obtain ⟨xs, hxs, _⟩ := hr
        refine ⟨by rw [hlen, ← hc]; rfl, ?_⟩
        have := fields_ok ih hl (fun f hf => mapM_some hxs f hf) (by omega)
        simpa [Ok] using this
      · rename_i n e hu
        split at hT
        case h_2 => cases hT
        rename_i E hE
        split at hT
        case isFalse => cases hT
        rename_i hc
        simp only [Bool.and_eq_true, beq_iff_eq] at hc
        cases hT
        unfold DataW.trod at hr
        rw [hu] at hr
        split at hr
        all_goals try (rename_i h _; cases h; done)
        all_goals try (rename_i h; cases h; done)
        all_goals try (cases hr; done)
        all_goals try (exact (‹∀ (n' : Nat) (e' : TypeId), some (TypeDesc.array n e) = some (TypeDesc.array n' e') → False› n e rfl).elim)
        rename_i n' e' _ he
        cases he
        split at hr
        case isFalse => cases hr
        rename_i hlen
        simp only [Option.map_eq_some_iff] at hr
        obtain ⟨xs, hxs, _⟩ := hr
        refine ⟨by rw [hlen, ← hc.2]; simp [Ty.size, sizes_replicate], ?_⟩
        have := elems_ok ih hE hc.1 (fun i hi => mapM_some hxs i (by simpa using hi)) (by rw [hlen, hc.2]) n 0 (by omega)
        simpa [Ok] using this
      · cases hT
end
end
end Go.Proofs.Yteffppdkofdmdaa.D
