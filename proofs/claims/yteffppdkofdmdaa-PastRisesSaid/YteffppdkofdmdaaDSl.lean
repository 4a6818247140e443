/- Slices that came in: what is read of them. Plain laws; no program. -/
import Derived.Test.YteffppdkofdmdaaDRow
import Derived.Test.YteffppdkofdmdaaDSet
namespace Go.Proofs.Yteffppdkofdmdaa.D
set_option linter.unusedSimpArgs false
noncomputable section

/-- A slice that came in, its elements' cells one by one, and where they lie. -/
structure Acc (s : St) (v : AV) (sz : Nat) (xs : List (List AV)) (b o : Nat) : Prop where
  len : ∀ s', len1 (some v) s' = some (.int .i64 (xs.length : Nat), s')
  idx : ∀ s' (j : Nat), j < xs.length → idx1 sz (some v) (some (.int .i64 (j : Int))) s' = some (.ptr b (o + j * sz), s')
  at_ : ∀ j (h : j < xs.length), ∃ vs, s.get b = some (.cells vs false true 0) ∧ o + (j * sz + sz) ≤ vs.length ∧ (vs.drop (o + j * sz)).take sz = xs[j]
  lt : 0 < xs.length → b < s.next
  cell : v.cell = true
  cells : v.cells = [v]
  max : xs.length ≤ maxLen
  form : 0 < xs.length → ∃ cap, v = .slice b o xs.length cap false ∧ xs.length ≤ cap ∧ cap ≤ maxLen

theorem Acc.mono {s s' : St} {v : AV} {sz : Nat} {xs : List (List AV)} {b o : Nat} (h : Acc s v sz xs b o) (f : Fr s s') : Acc s' v sz xs b o where
  len := h.len
  idx := h.idx
  at_ j hj := by
    obtain ⟨vs, h1, h2⟩ := h.at_ j hj
    exact ⟨vs, (f.get b (h.lt (by omega))).trans h1, h2⟩
  lt hn := Nat.lt_of_lt_of_le (h.lt hn) f.le
  cell := h.cell
  cells := h.cells
  max := h.max
  form := h.form

theorem Acc.monoX {s s' : St} {v : AV} {sz : Nat} {xs : List (List AV)} {b o : Nat} (h : Acc s v sz xs b o) {x : Nat} (f : FrX x s s') {l : List AV} {lo : Bool} {z : Nat} (hx : s.get x = some (.cells l lo false z)) : Acc s' v sz xs b o where
  len := h.len
  idx := h.idx
  at_ j hj := by
    obtain ⟨vs, h1, h2⟩ := h.at_ j hj
    refine ⟨vs, (f.get b (h.lt (by omega)) ?_).trans h1, h2⟩
    intro e
    rw [e, hx] at h1
    cases h1
  lt hn := Nat.lt_of_lt_of_le (h.lt hn) f.le
  cell := h.cell
  cells := h.cells
  max := h.max
  form := h.form

theorem acc_nil (s : St) (sz : Nat) : Acc s .nilSlice sz [] 0 0 where
  len _ := rfl
  idx _ j h := by simp at h
  at_ j h := by simp at h
  lt h := by simp at h
  cell := rfl
  cells := rfl
  max := by simp
  form h := by simp at h

theorem acc_of_ok {s : St} {e : Ty} {v : AV} (h : ArgOk s (.slice e) v) : ∃ xs b o, Acc s v e.size xs b o ∧ ∀ x ∈ xs, Ok s e x := by
  rcases argOk_slice h with rfl | ⟨a, rfl⟩ | ⟨b, o, len, cap, vs, rfl, h1, h2, h3, h4, h5, h6⟩
  · exact ⟨[], 0, 0, acc_nil s _, by simp⟩
  · exact ⟨[], 0, 0, ⟨fun _ => rfl, fun _ j h => by simp at h, fun j h => by simp at h, fun h => by simp at h, rfl, rfl, by simp, fun h => by simp at h⟩, by simp⟩
  · refine ⟨(List.range len).map fun i => (vs.drop (o + i * e.size)).take e.size, b, o, ⟨?_, ?_, ?_, fun _ => h4, rfl, rfl, by simp; omega, fun _ => ⟨cap, by simp, by simpa using h1, h2⟩⟩, ?_⟩
    · intro s'
      simp [len1]
    · intro s' j hj
      rw [List.length_map, List.length_range] at hj
      exact idx1_slice hj
    · intro j hj
      rw [List.length_map, List.length_range] at hj
      refine ⟨vs, h3, ?_, by simp⟩
      have := h5 (by omega)
      have h7 : (j + 1) * e.size ≤ cap * e.size := Nat.mul_le_mul_right _ (by omega)
      rw [Nat.succ_mul] at h7
      omega
    · intro x hx
      rw [List.mem_map] at hx
      obtain ⟨i, hi, rfl⟩ := hx
      rw [List.mem_range] at hi
      exact h6 i (by omega)

/-- What lies at a place of an element. -/
theorem Acc.part {s : St} {v : AV} {sz : Nat} {xs : List (List AV)} {b o : Nat} (h : Acc s v sz xs b o) (j : Nat) (hj : j < xs.length) : ∃ vs, s.get b = some (.cells vs false true 0) ∧
    (∀ i n, i + n ≤ sz → o + (j * sz + i) + n ≤ vs.length ∧ (vs.drop (o + (j * sz + i))).take n = (xs[j].drop i).take n) ∧ ∀ i, i < sz → vs[o + (j * sz + i)]? = xs[j][i]? := by
  obtain ⟨vs, h1, h2, h3⟩ := h.at_ j hj
  refine ⟨vs, h1, fun i n hi => ⟨by omega, ?_⟩, fun i hi => ?_⟩
  rotate_left
  · rw [← h3, List.getElem?_take_of_lt hi, List.getElem?_drop, Nat.add_assoc]
  rw [← h3, List.drop_take, List.take_take, List.drop_drop, Nat.min_eq_left (by omega), Nat.add_assoc]

/-- The beginning of a slice. -/
theorem Acc.take {s : St} {v : AV} {sz : Nat} {xs : List (List AV)} {b o : Nat} (h : Acc s v sz xs b o) {j : Nat} (hj : j ≤ xs.length) (h0 : 0 < xs.length) :
    ∃ v', sliceA sz v none (some (.int .i64 (j : Int))) none = some v' ∧ Acc s v' sz (xs.take j) b o := by
  obtain ⟨cap, rfl, hc, hm⟩ := h.form h0
  have hl : (xs.take j).length = j := by rw [List.length_take]; omega
  have hs : sliceA sz (.slice b o xs.length cap false) none (some (.int .i64 (j : Int))) none = some (.slice b o j cap false) := by
    have hb : boundsA xs.length cap none (some (.int .i64 (j : Int))) none = some (0, j, cap) := by
      have hb1 : boundA (.int .i64 (j : Int)) cap = some j := by
        show (if 0 ≤ (j : Int) ∧ (j : Int) ≤ (cap : Int) then some ((j : Int).toNat) else none) = some j
        rw [if_pos ⟨by omega, by omega⟩]
        simp
      unfold boundsA
      simp only [hb1]
    unfold sliceA
    simp only [hb]
    simp
  refine ⟨_, hs, ⟨?_, ?_, ?_, ?_, rfl, rfl, by rw [hl]; omega, fun _ => ⟨cap, by rw [hl], by omega, hm⟩⟩⟩
  · intro s'; rw [hl]; rfl
  · intro s' i hi; rw [hl] at hi; exact idx1_slice hi
  · intro i hi
    rw [hl] at hi
    obtain ⟨vs, h1, h2, h3⟩ := h.at_ i (by omega)
    exact ⟨vs, h1, h2, by rw [h3, List.getElem_take]⟩
  · intro _; exact h.lt h0

theorem ok_slice_arg {s : St} {e : Ty} {v : AV} (h : Ok s (.slice e) [v]) : ArgOk s (.slice e) v := h

theorem ok_slice1 {s : St} {e : Ty} {l : List AV} (h : Ok s (.slice e) l) : ∃ v, l = [v] ∧ ArgOk s (.slice e) v := by
  have h' := h
  rcases h with h | ⟨a, h⟩ | ⟨b, o, len, cap, vs, h, _⟩
  · subst h; exact ⟨_, rfl, h'⟩
  · subst h; exact ⟨_, rfl, h'⟩
  · subst h; exact ⟨_, rfl, h'⟩

theorem okAll_cons {s : St} {T : Ty} {Ts : List Ty} {l : List AV} (h : OkAll s (T :: Ts) l) : ∃ a b, l = a ++ b ∧ Ok s T a ∧ OkAll s Ts b := h
theorem okAll_nil {s : St} {l : List AV} (h : OkAll s [] l) : l = [] := h

theorem allCell_append : ∀ {a b : List AV}, allCell a = true → allCell b = true → allCell (a ++ b) = true
  | [], _, _, h => h
  | x :: a, b, h, k => by
    simp only [allCell, Bool.and_eq_true] at h
    simp only [List.cons_append, allCell, Bool.and_eq_true]
    exact ⟨h.1, allCell_append h.2 k⟩

mutual
theorem ok_length {s : St} : ∀ {T : Ty} {l : List AV}, Ok s T l → l.length = T.size
  | .bool, _, ⟨_, h⟩ => by subst h; rfl
  | .int _, _, ⟨_, h, _⟩ => by subst h; rfl
  | .str, _, ⟨_, h, _⟩ => by subst h; rfl
  | .slice _, _, h => by
    obtain ⟨_, rfl, _⟩ := ok_slice1 h
    rfl
  | .many _, _, h => okAll_length h
theorem okAll_length {s : St} : ∀ {Ts : List Ty} {l : List AV}, OkAll s Ts l → l.length = sizes Ts
  | [], _, h => by cases h; rfl
  | _ :: _, _, ⟨_, _, h, h1, h2⟩ => by subst h; rw [List.length_append, ok_length h1, okAll_length h2]; rfl
end

mutual
theorem ok_cell {s : St} : ∀ {T : Ty} {l : List AV}, Ok s T l → allCell l = true
  | .bool, _, ⟨_, h⟩ => by subst h; rfl
  | .int _, _, ⟨_, h, _⟩ => by subst h; rfl
  | .str, _, ⟨_, h, _⟩ => by subst h; rfl
  | .slice e, l, h => by
    obtain ⟨v, rfl, hv⟩ := ok_slice1 h
    obtain ⟨_, _, _, hA, _⟩ := acc_of_ok hv
    simp [allCell, hA.cell]
  | .many _, _, h => okAll_cell h
theorem okAll_cell {s : St} : ∀ {Ts : List Ty} {l : List AV}, OkAll s Ts l → allCell l = true
  | [], _, h => by cases h; rfl
  | _ :: _, _, ⟨_, _, h, h1, h2⟩ => by subst h; exact allCell_append (ok_cell h1) (okAll_cell h2)
end

/-- A list of cells, each read as one thing. -/
theorem list_read {α : Type} {f : α → List AV} {Q : α → Prop} : ∀ {xs : List (List AV)}, (∀ x ∈ xs, ∃ a, x = f a ∧ Q a) → ∃ l : List α, xs = l.map f ∧ ∀ a ∈ l, Q a
  | [], _ => ⟨[], rfl, by simp⟩
  | x :: xs, h => by
    obtain ⟨a, rfl, ha⟩ := h x (List.mem_cons_self ..)
    obtain ⟨l, rfl, hl⟩ := list_read (xs := xs) fun y hy => h y (List.mem_cons_of_mem _ hy)
    exact ⟨a :: l, rfl, fun b hb => by
      rcases List.mem_cons.1 hb with rfl | hb
      · exact ha
      · exact hl b hb⟩
end
end Go.Proofs.Yteffppdkofdmdaa.D
