/- The operations of the abstract machine do what the model's do: append, copy, lengths, make. -/
import Derived.Test.YteffppdkofdmdaaDSnd9
namespace Go.Proofs.Yteffppdkofdmdaa.D
variable {P : Program} {R : Nat} {μ : Place} {s : St} {w : World} {ev : Ev} {ρ : Operand → Value} {o : Oper} {p : POp} {v : AV} {s' : St}

theorem growBy_le (n : Nat) : ∀ (r c : Nat), Builtin.growBy n r c ≤ max c (n + (n + 768) / 4)
  | 0, c => by simp [Builtin.growBy]; omega
  | r + 1, c => by
    unfold Builtin.growBy
    split
    · omega
    · have := growBy_le n r (c + (c + 768) / 4)
      omega

/-- The capacity that growslice picks is no great one. -/
theorem next_le {n c b : Nat} (hc : c < n) (hb : n * b ≤ 2 ^ 46) : Builtin.nextslicecap n c * b ≤ 2 ^ 48 := by
  have h3 : Builtin.nextslicecap n c ≤ 3 * n := by
    unfold Builtin.nextslicecap
    split
    · omega
    · split
      · omega
      · have := growBy_le n 4 c
        omega
  have : Builtin.nextslicecap n c * b ≤ 3 * n * b := Nat.mul_le_mul_right _ h3
  rw [Nat.mul_assoc] at this
  omega

theorem loadA_take {b o k n : Nat} {l : List AV} (h : loadA s b o k = some l) (hn : n ≤ k) : loadA s b o n = some (l.take n) := by
  obtain ⟨vs, lo, ro, z, hg, hle, rfl⟩ := loadA_some h
  unfold loadA
  rw [hg]
  simp only []
  rw [if_pos (by omega), List.take_take, Nat.min_eq_left hn]

/-- The second operand of append and copy. -/
theorem run_src {esz n : Nat} {x : AV} {l : List AV} (h : HR P R μ s w) (hs : srcA s esz x = some (n, l)) (hl : l.length = n * esz) {c : Value} (hc : conc μ x = some c) :
    (Builtin.lenOf c).run P w = .ok n w ∧ ∃ xs, concs μ l = some xs ∧ ∀ m, m ≤ n → (Builtin.firstCells esz m c).run P w = .ok (xs.take (m * esz)).toArray w := by
  unfold srcA at hs
  split at hs
  · cases hs
    simp only [conc, Option.some.injEq] at hc
    subst hc
    exact ⟨rfl, [], rfl, fun m hm => by simp [Builtin.firstCells]⟩
  · cases hs
    obtain ⟨q, hq, rfl⟩ := conc_tail hc
    refine ⟨rfl, [], rfl, fun m hm => ?_⟩
    have : m = 0 := by omega
    subst this
    simp [Builtin.firstCells, loadCells, loadCellsFrom]
  · cases hs
    simp only [conc, Option.some.injEq] at hc
    subst hc
    refine ⟨rfl, [], rfl, fun m hm => ?_⟩
    have : m = 0 := by omega
    subst this
    rename_i a _
    cases a <;> simp [Builtin.firstCells, loadCells, loadCellsFrom]
  · rename_i b of len cap lo
    split at hs <;> cases hs
    rename_i hla
    obtain ⟨q, hq, rfl⟩ := conc_slice hc
    obtain ⟨xs, hxs, hxl, _⟩ := run_loadA (P := P) h hla hq
    refine ⟨rfl, xs, hxs, fun m hm => ?_⟩
    have hmk : m * esz ≤ n * esz := Nat.mul_le_mul_right _ hm
    obtain ⟨ys, hys, _, hrun⟩ := run_loadA (P := P) h (loadA_take hla hmk) hq
    have := concs_take hxs (m * esz)
    rw [hys] at this
    cases this
    simpa [Builtin.firstCells] using hrun
  · rename_i z
    split at hs <;> cases hs
    rename_i he
    subst he
    have := conc_str hc
    subst this
    refine ⟨rfl, z.data.toList.map fun c => .int .u8 c.toNat, ?_, fun m hm => ?_⟩
    · induction z.data.toList with
      | nil => rfl
      | cons a r ih => simp [concs, conc, ih]
    · simp only [Builtin.firstCells, Sem.run_pure]
      congr 1
      apply Array.ext'
      rw [ByteArray.data_extract, Nat.mul_one, ← List.map_take]
      simp
  · cases hs

/-- append, as the model runs it. -/
theorem run_append {st xt e : TypeId} {dx : TypeDesc} (hst : P.underlying st = some (.slice e)) (hxt : P.underlying xt = some dx) (hnx : ∀ k, dx ≠ .int k) {esz eb : Nat} (hsz : sizeB P e = some esz) (hb : bytesB P e = some eb) (hb1 : 1 ≤ eb)
    {base : Option Addr} {sLen sCap n : Nat} {x : Value} {xs : List Value} (hlen : (Builtin.lenOf x).run P w = .ok n w) (hfc : (Builtin.firstCells esz n x).run P w = .ok xs.toArray w) (ty : TypeId) :
    (sLen + n ≤ sCap → ∀ w', (match base with | some a => storeCells (a.add (sLen * esz)) xs | none => pure ()).run P w = .ok () w' → (Builtin.append_ #[st, xt] ty #[.slice base sLen sCap, x]).run P w = .ok (.slice base (sLen + n) sCap) w') ∧
    (sCap < sLen + n → (sLen + n) * eb ≤ 2 ^ 46 → ∀ zv : Value, (∀ w, (zeroValue e).run P w = .ok zv w) → zv.cells.size = esz → ∀ old : List Value, (∀ d, (Builtin.firstCells esz sLen (.slice base sLen sCap)).run P { w with drawn := d } = .ok old.toArray { w with drawn := d }) →
      (∀ d, (Builtin.firstCells esz n x).run P { w with drawn := d } = .ok xs.toArray { w with drawn := d }) →
      ∃ (ex : Nat) (rest : List Value), rest.length = ex * esz ∧ (Builtin.append_ #[st, xt] ty #[.slice base sLen sCap, x]).run P w = .ok (.slice (some ⟨w.heap.size, 0, none⟩) (sLen + n) (sLen + n + ex))
        { w with heap := w.heap.push (.cells (old ++ xs ++ rest).toArray e), drawn := w.drawn + 1 }) := by
  have hmat : (match dx with | .int _ => true | _ => false) = false := by
    cases dx <;> first | rfl | exact absurd rfl (hnx _)
  unfold bytesB at hb
  simp only [Option.map_eq_some_iff] at hb
  obtain ⟨i, hi, hib⟩ := hb
  constructor
  · intro hle w' hst'
    cases base with
    | none =>
      simp only [Sem.run_pure] at hst'
      cases hst'
      simp only [Builtin.append_, List.getElem?_toArray, List.getElem?_cons_zero, List.getElem?_cons_succ, Sem.run_bind, run_und hst, Result.andThen_ok, run_size hsz, run_und hxt, Sem.run_pure]
      simp [hlen, hfc, hle]
    | some a =>
      simp only [] at hst'
      simp only [Builtin.append_, List.getElem?_toArray, List.getElem?_cons_zero, List.getElem?_cons_succ, Sem.run_bind, run_und hst, Result.andThen_ok, run_size hsz, run_und hxt, Sem.run_pure]
      simp [hlen, hfc, hle, hst']
  · intro hgt hbd zv hz hzs old hold hnew
    obtain ⟨ex, hex⟩ : ∃ ex, Question.cut (.appendCap (sLen + n) sCap e) (w.tape w.drawn (.appendCap (sLen + n) sCap e)) = sLen + n + ex := ⟨_, rfl⟩
    have hnext := next_le (b := eb) hgt hbd
    refine ⟨ex, (Builtin.zeroCells zv.cells ex).toList, by simp [Builtin.zeroCells, hzs], ?_⟩
    have hn1 : ¬ (sLen + n ≤ sCap) := by omega
    have hn3 : ¬ (Builtin.nextslicecap (sLen + n) sCap * i.bytes > 2 ^ 48) := by rw [hib]; omega
    have hn4 : i.bytes ≠ 0 := by omega
    have h1 := hold (w.drawn + 1)
    have h2 := hnew (w.drawn + 1)
    simp only [Builtin.append_, List.getElem?_toArray, List.getElem?_cons_zero, List.getElem?_cons_succ, Sem.run_bind, run_und hst, Result.andThen_ok, run_size hsz, run_und hxt, Sem.run_pure, Bool.false_eq_true, if_false, hlen, if_neg hn1,
      run_info hi, false_or, hn4, and_false, if_neg hn3, run_choose, Question.forced, hex, run_askRoom, h1, Bool.not_false, if_true, h2, hz, newRow, run_newObj, Nat.add_sub_cancel_left]
    have harr : old.toArray ++ xs.toArray ++ Builtin.zeroCells zv.cells ex = (old ++ xs ++ (Builtin.zeroCells zv.cells ex).toList).toArray := by
      apply Array.ext'; simp
    rw [harr]

/-- What append does with a slice, n more values of it being these cells. -/
def AppRuns (P : Program) (st xt ty e : TypeId) (esz eb n : Nat) (x : Value) (xs : List Value) (w : World) : Prop :=
  ∀ (base : Option Addr) (sLen sCap : Nat),
    (sLen + n ≤ sCap → ∀ w', (match base with | some a => storeCells (a.add (sLen * esz)) xs | none => pure ()).run P w = .ok () w' → (Builtin.append_ #[st, xt] ty #[.slice base sLen sCap, x]).run P w = .ok (.slice base (sLen + n) sCap) w') ∧
    (sCap < sLen + n → (sLen + n) * eb ≤ 2 ^ 46 → ∀ zv : Value, (∀ w, (zeroValue e).run P w = .ok zv w) → zv.cells.size = esz → ∀ old : List Value, (∀ d, (Builtin.firstCells esz sLen (.slice base sLen sCap)).run P { w with drawn := d } = .ok old.toArray { w with drawn := d }) →
      ∃ (ex : Nat) (rest : List Value), rest.length = ex * esz ∧ (Builtin.append_ #[st, xt] ty #[.slice base sLen sCap, x]).run P w = .ok (.slice (some ⟨w.heap.size, 0, none⟩) (sLen + n) (sLen + n + ex))
        { w with heap := w.heap.push (.cells (old ++ xs ++ rest).toArray e), drawn := w.drawn + 1 })

theorem appRuns_src {st xt ty e : TypeId} {dx : TypeDesc} (hst : P.underlying st = some (.slice e)) (hxt : P.underlying xt = some dx) (hnx : ∀ k, dx ≠ .int k) {esz eb : Nat} (hsz : sizeB P e = some esz) (hb : bytesB P e = some eb) (hb1 : 1 ≤ eb)
    (h : HR P R μ s w) {n : Nat} {y : AV} {l : List AV} (hsrc : srcA s esz y = some (n, l)) (hl : l.length = n * esz) {cy : Value} (hcy : conc μ y = some cy) : ∃ xs, concs μ l = some xs ∧ AppRuns P st xt ty e esz eb n cy xs w := by
  obtain ⟨hlen, xs, hxs, hfc⟩ := run_src (P := P) h hsrc hl hcy
  have hfc0 := hfc n (Nat.le_refl _)
  have hxl := concs_length hxs
  have htake : xs.take (n * esz) = xs := List.take_of_length_le (by omega)
  rw [htake] at hfc0
  have hfcd : ∀ d, (Builtin.firstCells esz n cy).run P { w with drawn := d } = .ok xs.toArray { w with drawn := d } := fun d => by
    obtain ⟨_, ys, hys, hfc'⟩ := run_src (P := P) (h.heap_eq (w' := { w with drawn := d }) rfl) hsrc hl hcy
    rw [hxs] at hys; cases hys
    have := hfc' n (Nat.le_refl _)
    rwa [htake] at this
  refine ⟨xs, hxs, fun base sLen sCap => ?_⟩
  obtain ⟨r1, r2⟩ := run_append (P := P) (w := w) hst hxt hnx hsz hb hb1 (base := base) (sLen := sLen) (sCap := sCap) hlen hfc0 ty
  exact ⟨r1, fun g1 g2 zv g3 g4 old g5 => r2 g1 g2 zv g3 g4 old g5 hfcd⟩

theorem zeroCells_flat (c : Array Value) (n : Nat) : Builtin.zeroCells c n = (List.replicate n c.toList).flatten.toArray := by
  unfold Builtin.zeroCells
  exact range_mod_flatten c n

theorem appRuns_zeros {st xt ty e : TypeId} {k : IntKind} (hst : P.underlying st = some (.slice e)) (hxt : P.underlying xt = some (.int k)) {esz eb : Nat} (hsz : sizeB P e = some esz) (hb : bytesB P e = some eb) (hb1 : 1 ≤ eb)
    {zv : Value} (hz : ∀ w, (zeroValue e).run P w = .ok zv w) (hzs : zv.cells.size = esz) {m : Int} {k' : IntKind} (h0 : 0 ≤ m) (h1 : m < 2 ^ 40) (h2 : m.toNat * eb ≤ 2 ^ 46) :
    AppRuns P st xt ty e esz eb m.toNat (.int k' m) (List.replicate m.toNat zv.cells.toList).flatten w := by
  unfold bytesB at hb
  simp only [Option.map_eq_some_iff] at hb
  obtain ⟨i, hi, hib⟩ := hb
  have w1 : IntKind.i64.wrap m = m := by
    simp [IntKind.wrap, IntKind.signed, IntKind.bits]; omega
  have hn1 : ¬ (m < 0) := by omega
  have hbig : ¬ (m * i.bytes > 2 ^ 48) := by
    rw [hib]
    have : ((m.toNat * eb : Nat) : Int) ≤ 2 ^ 46 := by exact_mod_cast h2
    rw [Int.natCast_mul, Int.toNat_of_nonneg h0] at this
    omega
  have happ : ∀ w, (if m.toNat * esz = 0 then (pure #[] : Sem (Array Value)) else do pure (Builtin.zeroCells (← zeroValue e).cells m.toNat)).run P w = .ok (List.replicate m.toNat zv.cells.toList).flatten.toArray w := by
    intro w
    by_cases hz0 : m.toNat * esz = 0
    · rw [if_pos hz0]
      have : (List.replicate m.toNat zv.cells.toList).flatten.toArray = #[] := by
        rw [← zeroCells_flat, Builtin.zeroCells, hzs, hz0]; simp
      rw [this]; rfl
    · rw [if_neg hz0]
      simp [hz, zeroCells_flat]
  intro base sLen sCap
  constructor
  · intro hle w' hst'
    cases base with
    | none =>
      simp only [Sem.run_pure] at hst'
      cases hst'
      simp only [Builtin.append_, List.getElem?_toArray, List.getElem?_cons_zero, List.getElem?_cons_succ, Sem.run_bind, run_und hst, Result.andThen_ok, run_size hsz, run_und hxt, Sem.run_pure, if_true, asInt, asIntOf, w1, hn1, if_false,
        run_info hi, hbig, Bool.not_true, Bool.false_eq_true, if_pos hle, happ]
    | some a =>
      simp only [] at hst'
      simp only [Builtin.append_, List.getElem?_toArray, List.getElem?_cons_zero, List.getElem?_cons_succ, Sem.run_bind, run_und hst, Result.andThen_ok, run_size hsz, run_und hxt, Sem.run_pure, if_true, asInt, asIntOf, w1, hn1, if_false,
        run_info hi, hbig, Bool.not_true, Bool.false_eq_true, if_pos hle, happ, hst']
  · intro hgt hbd zv' hz' hzs' old hold
    have hzz : zv' = zv := by
      have g1 := hz' w
      rw [hz w] at g1
      cases g1; rfl
    subst hzz
    obtain ⟨ex, hex⟩ : ∃ ex, Question.cut (.appendCap (sLen + m.toNat) sCap e) (w.tape w.drawn (.appendCap (sLen + m.toNat) sCap e)) = sLen + m.toNat + ex := ⟨_, rfl⟩
    have hnext := next_le (b := eb) hgt hbd
    refine ⟨ex, (Builtin.zeroCells zv'.cells ex).toList, by simp [Builtin.zeroCells, hzs], ?_⟩
    have hn1' : ¬ (sLen + m.toNat ≤ sCap) := by omega
    have hn3 : ¬ (Builtin.nextslicecap (sLen + m.toNat) sCap * i.bytes > 2 ^ 48) := by rw [hib]; omega
    have hneed : sLen + m.toNat ≤ (sLen + m.toNat) * eb := Nat.le_mul_of_pos_right _ hb1
    have hn5 : ¬ (((sLen + m.toNat : Nat) : Int) > IntKind.i64.max) := by
      simp [IntKind.max, IntKind.signed, IntKind.bits]; omega
    have g1 := hold (w.drawn + 1)
    simp only [Builtin.append_, List.getElem?_toArray, List.getElem?_cons_zero, List.getElem?_cons_succ, Sem.run_bind, run_und hst, Result.andThen_ok, run_size hsz, run_und hxt, Sem.run_pure, if_true, asInt, asIntOf, w1, hn1, if_false,
      run_info hi, hbig, Bool.not_true, Bool.false_eq_true, if_neg hn1', hn5, false_and, if_neg hn3, run_choose, Question.forced, hex, run_askRoom, g1, happ, hz, newRow, run_newObj, Nat.add_sub_cancel_left]
    have harr : old.toArray ++ (List.replicate m.toNat zv'.cells.toList).flatten.toArray ++ Builtin.zeroCells zv'.cells ex = (old ++ (List.replicate m.toNat zv'.cells.toList).flatten ++ (Builtin.zeroCells zv'.cells ex).toList).toArray := by
      apply Array.ext'; simp
    rw [harr]
end Go.Proofs.Yteffppdkofdmdaa.D
