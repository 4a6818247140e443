/- Slices that came in: what is read of them. Plain laws; no program. -/
import Derived.Test.YtfboomidofnmfaaDRow
import Derived.Test.YtfboomidofnmfaaDSet
namespace Go.Proofs.Ytfboomidofnmfaa.D
set_option linter.unusedSimpArgs false
noncomputable section

/-- A slice that came in, its elements' cells one by one, and where they lie. -/
structure Acc (s : St) (v : AV) (sz : Nat) (xs : List (List AV)) (b o : Nat) : Prop where
  len : ∀ s', len1 (some v) s' = some (.int .i64 (xs.length : Nat), s')
  idx : ∀ s' (j : Nat), j < xs.length → idx1 sz (some v) (some (.int .i64 (j : Int))) s' = some (.ptr b (o + j * sz), s')
  at_ : ∀ j (h : j < xs.length), ∃ vs, s.get b = some (.cells vs false true 0) ∧ o + (j * sz + sz) ≤ vs.length ∧ (vs.drop (o + j * sz)).take sz = xs[j]
  lt : 0 < xs.length → b < s.next
  cell : v.cell = true
  cells : v.cells = [v]
  max : xs.length ≤ maxLen

theorem Acc.mono {s s' : St} {v : AV} {sz : Nat} {xs : List (List AV)} {b o : Nat} (h : Acc s v sz xs b o) (f : Fr s s') : Acc s' v sz xs b o where
  len := h.len
  idx := h.idx
  at_ j hj := by
    obtain ⟨vs, h1, h2⟩ := h.at_ j hj
    exact ⟨vs, (f.get b (h.lt (by omega))).trans h1, h2⟩
  lt hn := Nat.lt_of_lt_of_le (h.lt hn) f.le
  cell := h.cell
  cells := h.cells
  max := h.max

theorem Acc.monoX {s s' : St} {v : AV} {sz : Nat} {xs : List (List AV)} {b o : Nat} (h : Acc s v sz xs b o) {x : Nat} (f : FrX x s s') {l : List AV} {lo : Bool} {z : Nat} (hx : s.get x = some (.cells l lo false z)) : Acc s' v sz xs b o where
  len := h.len
  idx := h.idx
  at_ j hj := by
    obtain ⟨vs, h1, h2⟩ := h.at_ j hj
    refine ⟨vs, (f.get b (h.lt (by omega)) ?_).trans h1, h2⟩
    intro e
    rw [e, hx] at h1
    cases h1
  lt hn := Nat.lt_of_lt_of_le (h.lt hn) f.le
  cell := h.cell
  cells := h.cells
  max := h.max

theorem acc_nil (s : St) (sz : Nat) : Acc s .nilSlice sz [] 0 0 where
  len _ := rfl
  idx _ j h := by simp at h
  at_ j h := by simp at h
  lt h := by simp at h
  cell := rfl
  cells := rfl
  max := by simp

theorem acc_of_ok {s : St} {e : Ty} {v : AV} (h : ArgOk s (.slice e) v) : ∃ xs b o, Acc s v e.size xs b o ∧ ∀ x ∈ xs, Ok s e x := by
  rcases argOk_slice h with rfl | ⟨a, rfl⟩ | ⟨b, o, len, cap, vs, rfl, h1, h2, h3, h4, h5, h6⟩
  · exact ⟨[], 0, 0, acc_nil s _, by simp⟩
  · exact ⟨[], 0, 0, ⟨fun _ => rfl, fun _ j h => by simp at h, fun j h => by simp at h, fun h => by simp at h, rfl, rfl, by simp⟩, by simp⟩
  · refine ⟨(List.range len).map fun i => (vs.drop (o + i * e.size)).take e.size, b, o, ⟨?_, ?_, ?_, fun _ => h4, rfl, rfl, by simp; omega⟩, ?_⟩
    · intro s'
      simp [len1]
    · intro s' j hj
      rw [List.length_map, List.length_range] at hj
      exact idx1_slice hj
    · intro j hj
      rw [List.length_map, List.length_range] at hj
      refine ⟨vs, h3, ?_, by simp⟩
      have := h5 (by omega)
      have h7 : (j + 1) * e.size ≤ cap * e.size := Nat.mul_le_mul_right _ (by omega)
      rw [Nat.succ_mul] at h7
      omega
    · intro x hx
      rw [List.mem_map] at hx
      obtain ⟨i, hi, rfl⟩ := hx
      rw [List.mem_range] at hi
      exact h6 i (by omega)

theorem ok_slice_arg {s : St} {e : Ty} {v : AV} (h : Ok s (.slice e) [v]) : ArgOk s (.slice e) v := h

theorem ok_slice1 {s : St} {e : Ty} {l : List AV} (h : Ok s (.slice e) l) : ∃ v, l = [v] ∧ ArgOk s (.slice e) v := by
  have h' := h
  rcases h with h | ⟨a, h⟩ | ⟨b, o, len, cap, vs, h, _⟩
  · subst h; exact ⟨_, rfl, h'⟩
  · subst h; exact ⟨_, rfl, h'⟩
  · subst h; exact ⟨_, rfl, h'⟩

theorem okAll_cons {s : St} {T : Ty} {Ts : List Ty} {l : List AV} (h : OkAll s (T :: Ts) l) : ∃ a b, l = a ++ b ∧ Ok s T a ∧ OkAll s Ts b := h
theorem okAll_nil {s : St} {l : List AV} (h : OkAll s [] l) : l = [] := h

/-- A list of cells, each read as one thing. -/
theorem list_read {α : Type} {f : α → List AV} {Q : α → Prop} : ∀ {xs : List (List AV)}, (∀ x ∈ xs, ∃ a, x = f a ∧ Q a) → ∃ l : List α, xs = l.map f ∧ ∀ a ∈ l, Q a
  | [], _ => ⟨[], rfl, by simp⟩
  | x :: xs, h => by
    obtain ⟨a, rfl, ha⟩ := h x (List.mem_cons_self ..)
    obtain ⟨l, rfl, hl⟩ := list_read (xs := xs) fun y hy => h y (List.mem_cons_of_mem _ hy)
    exact ⟨a :: l, rfl, fun b hb => by
      rcases List.mem_cons.1 hb with rfl | hb
      · exact ha
      · exact hl b hb⟩
end
end Go.Proofs.Ytfboomidofnmfaa.D
