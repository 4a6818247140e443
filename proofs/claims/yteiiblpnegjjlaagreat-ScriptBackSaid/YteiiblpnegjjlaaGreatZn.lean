/- Scripts. The program's reader of bytes.
Scripts. An op read: the program's answer.
Scripts. The script of bytes: the program's answer.
Scripts. The script of bytes: the program's answer, whole.
Scripts. Parts of bytes; the same ops; a law's bytes.
The law of scripts, there and back. -/
import Derived.Test.YteiiblpnegjjlaaGreatZm
namespace Go.Proofs.YteiiblpnegjjlaaGreat.Lw
open D
set_option linter.unusedSimpArgs false
set_option linter.unusedVariables false
set_option maxRecDepth 10000

/-- What is left to be read. -/
def Rst (s : St) (N : Nat) (rest : AV) (L : List Nat) : Prop :=
  (rest = .nilSlice ∧ L = []) ∨ (∃ p, rest = .slice p 0 0 0 false ∧ L = [] ∧ p < N ∧ s.get p = some (.cells [] false false 0)) ∨ (∃ p o a, rest = .tail p o a ∧ L = []) ∨
  ∃ p A, rest = .slice p A.length L.length L.length true ∧ 0 < L.length ∧ p < N ∧ s.get p = some (.cells ((A ++ L).map u8) true false 1)
theorem Rst.mono {s s' : St} {N : Nat} {rest : AV} {L : List Nat} (h : Rst s N rest L) {q : Nat} {fl : Bool} {lo ro : Bool} {z : Nat} (hq : s.get q = some (.cells [rest, .bool fl] lo ro z)) (f : ∀ b, b < N → b ≠ q → s'.get b = s.get b) : Rst s' N rest L := by
  rcases h with h | ⟨p, h1, h2, h3, h4⟩ | h | ⟨p, A, h1, h2, h3, h4⟩
  · exact .inl h
  · refine .inr (.inl ⟨p, h1, h2, h3, (f p h3 ?_).trans h4⟩)
    rintro rfl
    rw [hq] at h4
    cases h4
  · exact .inr (.inr (.inl h))
  · refine .inr (.inr (.inr ⟨p, A, h1, h2, h3, (f p h3 ?_).trans h4⟩))
    rintro rfl
    rw [hq] at h4
    have h5 : [rest, AV.bool fl] = (A ++ L).map u8 := by simp only [Option.some.injEq, AObj.cells.injEq] at h4; exact h4.1
    have h6 := congrArg (fun l => l[1]?) h5
    simp only [List.getElem?_cons_succ, List.getElem?_cons_zero, List.getElem?_map] at h6
    cases hc : (A ++ L)[1]? with
    | none => rw [hc] at h6; cases h6
    | some c => rw [hc] at h6; cases h6
theorem Rst.bs {s : St} {N : Nat} {rest : AV} {L : List Nat} (h : Rst s N rest L) (hl : ∀ c ∈ L, c < 256) : Bs s rest L := by
  rcases h with ⟨rfl, rfl⟩ | ⟨p, rfl, rfl, h3, h4⟩ | ⟨p, o, a, rfl, rfl⟩ | ⟨p, A, rfl, h2, h3, h4⟩
  · exact ⟨fun _ => rfl, by simp, fun j h => by simp at h, fun h => by simp at h, rfl, rfl⟩
  · exact ⟨fun _ => rfl, by simp, fun j h => by simp at h, fun h => by simp at h, rfl, rfl⟩
  · exact ⟨fun _ => rfl, by simp, fun j h => by simp at h, fun h => by simp at h, rfl, rfl⟩
  · refine ⟨fun _ => rfl, hl, fun j hj => ⟨p, A.length, _, _, _, _, fun s' => by rw [idx1_slice hj, Nat.mul_one], h4, ?_⟩, fun _ => ⟨p, A.length, _, _, rfl, ?_⟩, rfl, rfl⟩
    · rw [List.getElem?_map, List.getElem?_append_right (by omega), Nat.add_sub_cancel_left, List.getElem?_eq_getElem hj]
      rfl
    · unfold loadA
      rw [h4]
      simp only [List.length_map, List.length_append]
      rw [if_pos (Nat.le_refl _), List.map_append, List.drop_append_of_le_length (by simp), List.drop_of_length_le (by simp), List.nil_append, List.take_of_length_le (by simp)]
theorem Rst.cap {s : St} {N : Nat} {rest : AV} {L : List Nat} (h : Rst s N rest L) : ∀ b o n c lo, rest = .slice b o n c lo → n ≤ c := by
  rintro b o n c lo rfl
  rcases h with ⟨h, _⟩ | ⟨p, h, _⟩ | ⟨p, o, a, h, _⟩ | ⟨p, A, h, _⟩ <;> cases h <;> exact Nat.le_refl _
theorem Rst.slice {s : St} {N : Nat} {rest rest' : AV} {L : List Nat} {w : Nat} (h : Rst s N rest L) (hw : w ≤ L.length) (hs : sliceA 1 rest (some (.int .i64 (w : Int))) none none = some rest') : Rst s N rest' (L.drop w) := by
  rcases h with ⟨rfl, rfl⟩ | ⟨p, rfl, rfl, h3, h4⟩ | ⟨p, o, a, rfl, rfl⟩ | ⟨p, A, rfl, h2, h3, h4⟩
  · have : w = 0 := by simpa using hw
    subst this
    cases hs
    exact .inl ⟨rfl, rfl⟩
  · have : w = 0 := by simpa using hw
    subst this
    cases hs
    exact .inr (.inl ⟨p, rfl, rfl, h3, h4⟩)
  · have : w = 0 := by simpa using hw
    subst this
    cases hs
    exact .inr (.inr (.inl ⟨p, o, a, rfl, rfl⟩))
  · have b2 : boundsA L.length L.length (some (.int .i64 (w : Int))) none none = some (w, L.length, L.length) := by
      unfold boundsA
      simp only [Nat.le_refl, if_true, bound_nat hw]
    unfold sliceA at hs
    simp only [b2] at hs
    by_cases hwl : L.length = w
    · simp [hwl] at hs
      subst hs
      exact .inr (.inr (.inl ⟨p, _, _, rfl, List.drop_of_length_le (by omega)⟩))
    · simp [hwl] at hs
      subst hs
      refine .inr (.inr (.inr ⟨p, A ++ L.take w, ?_, by rw [List.length_drop]; omega, h3, ?_⟩))
      · rw [List.length_append, List.length_take, List.length_drop, Nat.min_eq_left hw]
      · rw [h4, List.append_assoc, List.take_append_drop]

/-- A reader of bytes. -/
structure Rdr (s : St) (N q : Nat) (r : Rr) : Prop where
  get : ∃ rest lo z, s.get q = some (.cells [rest, .bool r.2] lo false z) ∧ Rst s N rest r.1
  lt : ∀ c ∈ r.1, c < 256
  len : r.1.length < 1000000000
  q : q < N
theorem Rdr.fr {s s' : St} {N q : Nat} {r : Rr} (h : Rdr s N q r) (f : ∀ b, b < N → s'.get b = s.get b) : Rdr s' N q r where
  get := by
    obtain ⟨rest, lo, z, h1, h2⟩ := h.get
    exact ⟨rest, lo, z, (f q h.q).trans h1, h2.mono h1 fun b hb _ => f b hb⟩
  lt := h.lt
  len := h.len
  q := h.q
theorem Rdr.put {s : St} {N q : Nat} {r : Rr} (h : Rdr s N q r) {a : Nat} (ha : N ≤ a) (o : AObj) : Rdr (s.put a o) N q r := h.fr fun b hb => by rw [St.get_put, if_neg (by omega)]
theorem Rdr.new {s : St} {N q : Nat} {r : Rr} (h : Rdr s N q r) (hN : N ≤ s.next) (o : AObj) : Rdr (s.new o) N q r := h.fr fun b hb => by rw [St.get_new, if_neg (by omega)]

theorem Take0_run {q z N : Nat} {lo fl : Bool} {rest : AV} {L : List Nat} {s : St} (hq : s.get q = some (.cells [rest, .bool fl] lo false z)) (hd : Dom s) (hR : Rst s N rest L) (hl : ∀ c ∈ L, c < 256) (hL : L.length < 1000000000) :
    Wf mm 41 [.ptr q 0, .int .i64 0] s fun v s' => (∀ b, b < s.next → b ≠ q → s'.get b = s.get b) ∧ OutB s' s.next v [] ∧
      ((fl = true ∧ s'.get q = some (.cells [rest, .bool true] lo false z)) ∨ (fl = false ∧ ∃ rest', sliceA 1 rest (some (.int .i64 0)) none none = some rest' ∧ s'.get q = some (.cells [rest', .bool false] lo false z))) := by
  refine Wf_enter ft41 (sm (by decide)) (by rfl) ?_
  have hqn := hd _ _ hq
  have hB := hR.bs hl
  have hce := hB.cell
  have ft : (false == true) = false := rfl
  have tf : (true == false) = false := rfl
  cases fl with
  | true =>
    simp -implicitDefEqProofs only [go_sem, Wk_block, Wk_drawnC, reduceCtorEq, Nat.reduceEqDiff, Nat.reduceAdd, Nat.reduceLeDiff, Nat.reduceLT, Nat.reduceMul, Nat.reduceSub, ↓reduceIte, Int.reduceLT, Int.reduceLE, Int.reduceNeg, Int.reduceAdd, Int.reduceEq, Nat.reduceBneDiff, Nat.reduceBEq, Int.reduceToNat, Int.reduceMul, Int.reduceSub, Int.reduceBEq, Int.reduceBNe, fd41, hq, ft, tf, hce]
    exact ⟨fun b h1 h2 => if_neg h2, .inl ⟨rfl, rfl⟩, .inl trivial⟩
  | false =>
    have c1 : decide ((0 : Int) < 0) = false := rfl
    have c2 : decide ((0 : Int) > (L.length : Int)) = false := decide_eq_false (by omega)
    have c3 : decide (L.length < 0) = false := decide_eq_false (by omega)
    obtain ⟨r0, u, s1, e1, hcl, hou, hns, hfr⟩ : ∃ r0 u s1, sliceA 1 rest none (some (.int .i64 0)) none = some r0 ∧ mm.L.call 39 [r0] s = some (u, s1) ∧ OutB s1 s.next u [] ∧ s.next ≤ s1.next ∧ ∀ b, b < s.next → s1.get b = s.get b := by
      have hnw : OutB (s.new (.cells [] false false 0)) s.next (.slice s.next 0 0 0 false) [] := .inr (.inl ⟨s.next, rfl, rfl, Nat.le_refl _, by simp, by rw [St.get_new, if_pos rfl]⟩)
      have hfn : ∀ b, b < s.next → (s.new (.cells [] false false 0)).get b = s.get b := fun b hb => by rw [St.get_new, if_neg (by omega)]
      rcases hR with ⟨rfl, rfl⟩ | ⟨p, rfl, rfl, h3, h4⟩ | ⟨p, o, a, rfl, rfl⟩ | ⟨p, A, rfl, h2, h3, h4⟩
      · exact ⟨_, _, _, rfl, Clone_nil s, .inl ⟨rfl, rfl⟩, Nat.le_refl _, fun _ _ => rfl⟩
      · have hlo : loadA s p 0 0 = some [] := by unfold loadA; rw [h4]; simp
        exact ⟨_, _, _, rfl, Clone_raw hlo (by omega) hd, hnw, by simp, hfn⟩
      · exact ⟨_, _, _, rfl, Clone_tail _ _ _ s, hnw, by simp, hfn⟩
      · have b1 : boundsA L.length L.length none (some (.int .i64 0)) none = some (0, 0, L.length) := by
          unfold boundsA
          simp only [show boundA (.int .i64 0) L.length = some 0 from bound_nat (k := 0) (by omega)]
        have hlo : loadA s p A.length 0 = some [] := by
          unfold loadA
          rw [h4]
          simp
        refine ⟨.slice p A.length 0 L.length true, _, _, ?_, Clone_raw hlo (by omega) hd, hnw, by simp, hfn⟩
        unfold sliceA
        simp only [b1]
        have : ¬ L.length = 0 := by omega
        simp [this]
    obtain ⟨rest', hr', hce'⟩ : ∃ rest', sliceA 1 rest (some (.int .i64 0)) none none = some rest' ∧ rest'.cell = true ∧ rest'.cells = [rest'] := by
      rcases hR with ⟨rfl, rfl⟩ | ⟨p, rfl, rfl, h3, h4⟩ | ⟨p, o, a, rfl, rfl⟩ | ⟨p, A, rfl, h2, h3, h4⟩
      · exact ⟨_, rfl, rfl, rfl⟩
      · exact ⟨_, rfl, rfl, rfl⟩
      · exact ⟨_, rfl, rfl, rfl⟩
      · have b2 : boundsA L.length L.length (some (.int .i64 0)) none none = some (0, L.length, L.length) := by
          unfold boundsA
          simp only [Nat.le_refl, if_true, show boundA (.int .i64 0) L.length = some 0 from bound_nat (k := 0) (by omega)]
        unfold sliceA
        simp only [b2]
        have : ¬ L.length = 0 := by omega
        exact ⟨.slice p A.length L.length L.length true, by simp [this], rfl, rfl⟩
    have hq1 : s1.get q = some (.cells [rest, .bool false] lo false z) := (hfr q hqn).trans hq
    have huc := hou.cell
    simp -implicitDefEqProofs only [go_sem, Wk_block, Wk_drawnC, reduceCtorEq, Nat.reduceEqDiff, Nat.reduceAdd, Nat.reduceLeDiff, Nat.reduceLT, Nat.reduceMul, Nat.reduceSub, ↓reduceIte, Int.reduceLT, Int.reduceLE, Int.reduceNeg, Int.reduceAdd, Int.reduceEq, Nat.reduceBneDiff, Nat.reduceBEq, Int.reduceToNat, Int.reduceMul, Int.reduceSub, Int.reduceBEq, Int.reduceBNe, fd41, hq, ft, tf, hce, hB.len, c1, c2, c3, e1, Wl_eq hcl, hq1, hr', hce', huc]
    refine ⟨fun b h1 h2 => ?_, hou.put hqn _, .inr ⟨rest', rfl, rfl⟩⟩
    rw [if_neg h2]
    exact hfr b h1

theorem Rdr.next {s s' : St} {N q : Nat} {r : Rr} (h : Rdr s N q r) {rest : AV} {lo : Bool} {z : Nat} {r' : Rr} (h1 : s.get q = some (.cells [rest, .bool r.2] lo false z)) (f : ∀ b, b < N → b ≠ q → s'.get b = s.get b) {rest' : AV} (hq : s'.get q = some (.cells [rest', .bool r'.2] lo false z)) (hR : Rst s N rest' r'.1)
    (hl : ∀ c ∈ r'.1, c < 256) (hn : r'.1.length ≤ r.1.length) : Rdr s' N q r' where
  get := by
    refine ⟨rest', lo, z, hq, ?_⟩
    rcases hR with hR | ⟨p, h1', h2, h3, h4⟩ | hR | ⟨p, A, h1', h2, h3, h4⟩
    · exact .inl hR
    · refine .inr (.inl ⟨p, h1', h2, h3, (f p h3 ?_).trans h4⟩)
      rintro rfl
      rw [h1] at h4
      cases h4
    · exact .inr (.inr (.inl hR))
    · refine .inr (.inr (.inr ⟨p, A, h1', h2, h3, (f p h3 ?_).trans h4⟩))
      rintro rfl
      rw [h1] at h4
      have h5 : [rest, AV.bool r.2] = (A ++ r'.1).map u8 := by simp only [Option.some.injEq, AObj.cells.injEq] at h4; exact h4.1
      have h6 := congrArg (fun l => l[1]?) h5
      simp only [List.getElem?_cons_succ, List.getElem?_cons_zero, List.getElem?_map] at h6
      cases hc : (A ++ r'.1)[1]? with
      | none => rw [hc] at h6; cases h6
      | some c => rw [hc] at h6; cases h6
  lt := hl
  len := Nat.lt_of_le_of_lt hn h.len
  q := h.q
theorem Rdr.q_lt {s : St} {N q : Nat} {r : Rr} (h : Rdr s N q r) (hd : Dom s) : q < s.next := by
  obtain ⟨_, _, _, h1, _⟩ := h.get
  exact hd _ _ h1

theorem Take_any {s : St} {N q w : Nat} {r : Rr} (h : Rdr s N q r) (hN : N ≤ s.next) (hd : Dom s) (hw : w < 1000000) :
    Wf mm 41 [.ptr q 0, .int .i64 (w : Int)] s fun v s' => Rdr s' N q (rTake r w).1 ∧ OutB s' s.next v ((rTake r w).2.map u8) ∧ FrX q s s' ∧ Dom s' := by
  obtain ⟨rest, lo, z, h1, h2⟩ := h.get
  cases w with
  | zero =>
    refine ((Take0_run h1 hd h2 h.lt h.len).stp mm_st).mono ?_
    rintro v s' ⟨⟨f, ho, hc⟩, st⟩
    have fN : ∀ b, b < N → b ≠ q → s'.get b = s.get b := fun b hb => f b (by omega)
    have hr2 : (rTake r 0).2 = [] := by unfold rTake; split <;> simp
    refine ⟨?_, by rw [hr2]; exact ho, ⟨st.le, f⟩, st.dom hd⟩
    rcases hc with ⟨hf, hq⟩ | ⟨hf, rest', hs, hq⟩
    · have e : (rTake r 0).1 = r := by unfold rTake; rw [hf]; obtain ⟨a, b⟩ := r; simp at hf; simp [hf]
      rw [e]
      refine h.next h1 fN ?_ h2 h.lt (Nat.le_refl _)
      rw [hf]; exact hq
    · have e : (rTake r 0).1 = r := by unfold rTake; rw [hf]; obtain ⟨a, b⟩ := r; simp at hf; simp [hf]
      rw [e]
      have hR := h2.slice (w := 0) (by omega) hs
      rw [List.drop_zero] at hR
      refine h.next h1 fN ?_ hR h.lt (Nat.le_refl _)
      rw [hf]; exact hq
  | succ k =>
    refine ((Take_run h1 hd (h2.bs h.lt) (w := k + 1) (by omega) h.len h2.cap).stp mm_st).mono ?_
    rintro v s' ⟨⟨n1, n2, f, hce, hc⟩, st⟩
    have fN : ∀ b, b < N → b ≠ q → s'.get b = s.get b := fun b hb => f b (by omega)
    rcases hc with ⟨hf, rfl, hq⟩ | ⟨hf, hle, rest', hs, hq, rfl, hg, hn⟩
    · have e : rTake r (k + 1) = ((r.1, true), []) := by
        unfold rTake
        rw [if_pos]
        rcases hf with hf | hf
        · simp [hf]
        · simp; exact .inr hf
      rw [e]
      exact ⟨h.next (r' := (r.1, true)) h1 fN hq h2 h.lt (Nat.le_refl _), .inl ⟨rfl, rfl⟩, ⟨st.le, f⟩, st.dom hd⟩
    · have e : rTake r (k + 1) = ((r.1.drop (k + 1), false), r.1.take (k + 1)) := by
        unfold rTake
        rw [if_neg]
        simp [hf]
        omega
      rw [e]
      refine ⟨h.next (r' := (r.1.drop (k + 1), false)) h1 fN hq (h2.slice hle hs) (fun c hc => h.lt c (List.mem_of_mem_drop hc)) (by simp), .inr (.inr ⟨s.next + 1, ?_, ?_, by omega, by omega, hg⟩), ⟨st.le, f⟩, st.dom hd⟩
      · rw [List.length_map, List.length_take, Nat.min_eq_left hle]
      · rw [List.length_map, List.length_take, Nat.min_eq_left hle]; omega
theorem Num_any {s : St} {N q w : Nat} {r : Rr} (h : Rdr s N q r) (hN : N ≤ s.next) (hd : Dom s) (hok : okW (w : Int) = true) (hw : 0 < w) (hw8 : w ≤ 8) :
    Wf mm 40 [.ptr q 0, .int .i64 (w : Int)] s fun v s' => v = .int .u64 ((rNum r w).2 : Int) ∧ Rdr s' N q (rNum r w).1 ∧ FrX q s s' ∧ Dom s' := by
  obtain ⟨rest, lo, z, h1, h2⟩ := h.get
  refine ((Num_run h1 hd (h2.bs h.lt) hok hw hw8 h.len h2.cap).stp mm_st).mono ?_
  rintro v s' ⟨⟨n1, n2, f, hc⟩, st⟩
  have fN : ∀ b, b < N → b ≠ q → s'.get b = s.get b := fun b hb => f b (by omega)
  rcases hc with ⟨hf, rfl, hq⟩ | ⟨hf, hle, rfl, rest', hs, hq⟩
  · have e : rTake r w = ((r.1, true), []) := by
      unfold rTake
      rw [if_pos]
      rcases hf with hf | hf
      · simp [hf]
      · simp; exact .inr hf
    unfold rNum
    rw [e]
    exact ⟨rfl, h.next (r' := (r.1, true)) h1 fN hq h2 h.lt (Nat.le_refl _), ⟨st.le, f⟩, st.dom hd⟩
  · have e : rTake r w = ((r.1.drop w, false), r.1.take w) := by
      unfold rTake
      rw [if_neg]
      simp [hf]
      omega
    unfold rNum
    rw [e]
    exact ⟨rfl, h.next (r' := (r.1.drop w, false)) h1 fN hq (h2.slice hle hs) (fun c hc => h.lt c (List.mem_of_mem_drop hc)) (by simp), ⟨st.le, f⟩, st.dom hd⟩
theorem Int_any {s : St} {N q w : Nat} {r : Rr} (h : Rdr s N q r) (hN : N ≤ s.next) (hd : Dom s) (hok : okW (w : Int) = true) (hw : 0 < w) (hw4 : w ≤ 4) :
    Wf mm 20 [.agg [.ptr q 0], .int .i64 (w : Int)] s fun v s' => v = .int .i64 ((rNum r w).2 : Int) ∧ Rdr s' N q (rNum r w).1 ∧ FrX q s s' ∧ Dom s' := by
  refine Wf_enter ft20 (sm (by decide)) (by rfl) ?_
  have ft : (false == true) = false := rfl
  have hlt := (rNum_lt (w := w) h.lt).1
  have h4 : (256 : Nat) ^ w ≤ 256 ^ 4 := Nat.pow_le_pow_right (by omega) hw4
  have wn : IntKind.i64.wrap ((rNum r w).2 : Int) = ((rNum r w).2 : Int) := i64_in (by omega) (by omega)
  simp -implicitDefEqProofs only [go_sem, Wk_block, Wk_drawnC, reduceCtorEq, Nat.reduceEqDiff, Nat.reduceAdd, Nat.reduceLeDiff, Nat.reduceLT, Nat.reduceMul, Nat.reduceSub, ↓reduceIte, Int.reduceLT, Int.reduceLE, Int.reduceNeg, Int.reduceAdd, Int.reduceEq, Nat.reduceBneDiff, Nat.reduceBEq, Int.reduceToNat, Int.reduceMul, Int.reduceSub, Int.reduceBEq, Int.reduceBNe, fd20, ft]
  refine Wl_of (Num_any (h.new hN _) (by simp only [St.next_new]; omega) (dom_new hd _) hok hw (by omega)) ?_
  rintro _ s' ⟨rfl, h', f, hd'⟩
  simp -implicitDefEqProofs only [go_sem, Wk_block, Wk_drawnC, reduceCtorEq, Nat.reduceEqDiff, Nat.reduceAdd, Nat.reduceLeDiff, Nat.reduceLT, Nat.reduceMul, Nat.reduceSub, ↓reduceIte, Int.reduceLT, Int.reduceLE, Int.reduceNeg, Int.reduceAdd, Int.reduceEq, Nat.reduceBneDiff, Nat.reduceBEq, Int.reduceToNat, Int.reduceMul, Int.reduceSub, Int.reduceBEq, Int.reduceBNe, wn, ft]
  refine ⟨h', ⟨Nat.le_trans (Nat.le_succ _) f.le, fun b hb hq => ?_⟩, hd'⟩
  rw [f.get b (by simp only [St.next_new]; omega) hq, St.get_new, if_neg (by omega)]
end Go.Proofs.YteiiblpnegjjlaaGreat.Lw
namespace Go.Proofs.YteiiblpnegjjlaaGreat.Lw
open D
set_option linter.unusedSimpArgs false
set_option linter.unusedVariables false
set_option maxRecDepth 10000

/-- A slice that append made, of whole numbers; or none yet. -/
def OutI (s : St) (N : Nat) (w : AV) (L : List Int) : Prop := (w = .nilSlice ∧ L = []) ∨ ∃ p, w = .slice p 0 L.length L.length true ∧ 0 < L.length ∧ N ≤ p ∧ p < s.next ∧ s.get p = some (.cells (L.map (AV.int .i64)) true false 1)
theorem OutI.cell {s : St} {N : Nat} {w : AV} {L : List Int} (h : OutI s N w L) : w.cell = true ∧ w.cells = [w] := by
  rcases h with ⟨rfl, _⟩ | ⟨p, rfl, _⟩ <;> exact ⟨rfl, rfl⟩
theorem OutI.same {s : St} {N : Nat} {w : AV} {L : List Int} (h : OutI s N w L) : D.same w w = true := by
  rcases h with ⟨rfl, _⟩ | ⟨p, rfl, _⟩ <;> simp [D.same]
theorem OutB.same {s : St} {N : Nat} {w : AV} {L : List AV} (h : OutB s N w L) : D.same w w = true := by
  rcases h with ⟨rfl, _⟩ | ⟨p, rfl, _⟩ | ⟨p, rfl, _⟩ <;> simp [D.same]
/-- Blocks that append made stay. -/
theorem OutI.keep {s s' : St} {N : Nat} {w : AV} {L : List Int} (h : OutI s N w L) (hn : s.next ≤ s'.next) (f : ∀ b vs, s.get b = some (.cells vs true false 1) → s'.get b = some (.cells vs true false 1)) : OutI s' N w L := by
  rcases h with h | ⟨p, h1, h2, h3, h4, h5⟩
  · exact .inl h
  · exact .inr ⟨p, h1, h2, h3, by omega, f p _ h5⟩
theorem OutI.new {s : St} {N : Nat} {w : AV} {L : List Int} (h : OutI s N w L) (o : AObj) : OutI (s.new o) N w L := by
  rcases h with h | ⟨p, h1, h2, h3, h4, h5⟩
  · exact .inl h
  · exact .inr ⟨p, h1, h2, h3, by simp only [St.next_new]; omega, by rw [St.get_new, if_neg (by omega)]; exact h5⟩
theorem OutI.put {s : St} {N a : Nat} {w : AV} {L : List Int} {C : List AV} {ro : Bool} {z : Nat} (h : OutI s N w L) (g : s.get a = some (.cells C false ro z)) (o : AObj) : OutI (s.put a o) N w L := by
  refine h.keep (Nat.le_refl _) fun b vs hb => ?_
  rw [St.get_put, if_neg]
  · exact hb
  · rintro rfl
    rw [g] at hb
    cases hb
theorem OutI.frx {s s' : St} {N q : Nat} {w : AV} {L : List Int} (h : OutI s N w L) (hq : q < N) (f : FrX q s s') : OutI s' N w L := by
  rcases h with h | ⟨p, h1, h2, h3, h4, h5⟩
  · exact .inl h
  · exact .inr ⟨p, h1, h2, h3, Nat.lt_of_lt_of_le h4 f.le, (f.get p h4 (by omega)).trans h5⟩
theorem OutB.put2 {s : St} {N a : Nat} {w : AV} {L : List AV} {C : List AV} {ro : Bool} {z : Nat} (h : OutB s N w L) (g : s.get a = some (.cells C false ro z)) (hC : C ≠ []) (o : AObj) : OutB (s.put a o) N w L := by
  rcases h with h | ⟨p, h1, h2, h3, h4, h5⟩ | ⟨p, h1, h2, h3, h4, h5⟩
  · exact .inl h
  · refine .inr (.inl ⟨p, h1, h2, h3, h4, ?_⟩)
    rw [St.get_put, if_neg]
    · exact h5
    · rintro rfl
      rw [g] at h5
      simp only [Option.some.injEq, AObj.cells.injEq] at h5
      exact hC h5.1
  · refine .inr (.inr ⟨p, h1, h2, h3, h4, ?_⟩)
    rw [St.get_put, if_neg]
    · exact h5
    · rintro rfl
      rw [g] at h5
      cases h5
theorem OutI.push {s : St} {N : Nat} {w : AV} {L : List Int} (h : OutI s N w L) (hN : N ≤ s.next) (hl : L.length < 1000000) (x : Int) :
    ∃ w' s', appendA 1 8 s w 1 [.int .i64 x] = some (w', s') ∧ OutI s' N w' (L ++ [x]) ∧ Stp s s' ∧ (∀ b, b < N → s'.get b = s.get b) ∧ (Dom s → ∀ b vs ro z, s.get b = some (.cells vs false ro z) → s'.get b = some (.cells vs false ro z)) := by
  have hnew : ∀ o : AObj, Dom s → ∀ b vs ro z, s.get b = some (.cells vs false ro z) → (s.new o).get b = some (.cells vs false ro z) := fun o hd b vs ro z hb => by
    rw [St.get_new, if_neg (by have := hd _ _ hb; omega)]; exact hb
  rcases h with ⟨rfl, rfl⟩ | ⟨p, rfl, h1, h2, h3, h4⟩
  · refine ⟨.slice s.next 0 1 1 true, s.new (.cells [.int .i64 x] true false 1), rfl, .inr ⟨s.next, rfl, by simp, hN, Nat.lt_succ_self _, ?_⟩, .new _ _, fun b hb => ?_, hnew _⟩
    · rw [St.get_new, if_pos rfl]; rfl
    · rw [St.get_new, if_neg (by omega)]
  · refine ⟨.slice s.next 0 (L.length + 1) (L.length + 1) true, (s.drop p).new (.cells (L.map (AV.int .i64) ++ [.int .i64 x]) true false 1), ?_, .inr ⟨s.next, by simp, by simp, hN, Nat.lt_succ_self _, ?_⟩, (Stp.drop _ _).trans (.new _ _), fun b hb => ?_, fun hd b vs ro z hb => ?_⟩
    · have hlo : loadA s p 0 (L.length * 1) = some (L.map (AV.int .i64)) := by
        unfold loadA
        rw [h4]
        simp [List.take_of_length_le]
      unfold appendA
      simp only [hlo, h4]
      rw [if_neg (by omega), if_pos (by omega)]
      simp [allCell, AV.cell]
    · rw [St.get_new, if_pos (by simp)]
      simp
    · rw [St.get_new, if_neg (by simp; omega), St.get_drop, if_neg (by omega)]
    · have hbp : b ≠ p := by rintro rfl; rw [h4] at hb; cases hb
      rw [St.get_new, if_neg (by have := hd _ _ hb; simp; omega), St.get_drop, if_neg hbp]; exact hb

/-- Something is being read into cells of its own. -/
structure Opi (s : St) (N q a1 a2 a3 : Nat) (Z C : List AV) (r : Rr) (t : St) : Prop where
  rd : Rdr t N q r
  fx : FrX q s t
  dom : Dom t
  g1 : t.get a1 = some (.cells [.ptr q 0] false false 0)
  g2 : t.get a2 = some (.cells Z false false 0)
  g3 : t.get a3 = some (.cells C false false 0)
  N0 : N ≤ s.next
  h1 : s.next ≤ a1
  h2 : s.next ≤ a2
  h3 : s.next ≤ a3
  ne : a1 ≠ a3
  ne2 : a2 ≠ a3
theorem Opi.store {s : St} {N q a1 a2 a3 : Nat} {Z C : List AV} {r : Rr} {t : St} (h : Opi s N q a1 a2 a3 Z C r t) (C' : List AV) : Opi s N q a1 a2 a3 Z C' r (t.put a3 (.cells C' false false 0)) where
  rd := h.rd.put (Nat.le_trans h.N0 h.h3) _
  fx := h.fx.put (.inr h.h3) _
  dom := (Stp.put h.g3 _).dom h.dom
  g1 := by rw [St.get_put, if_neg h.ne]; exact h.g1
  g2 := by rw [St.get_put, if_neg h.ne2]; exact h.g2
  g3 := by rw [St.get_put, if_pos rfl]
  N0 := h.N0
  h1 := h.h1
  h2 := h.h2
  h3 := h.h3
  ne := h.ne
  ne2 := h.ne2
theorem Opi.step {s : St} {N q a1 a2 a3 : Nat} {Z C : List AV} {r r' : Rr} {t t' : St} (h : Opi s N q a1 a2 a3 Z C r t) (hr : Rdr t' N q r') (f : FrX q t t') (hd : Dom t') : Opi s N q a1 a2 a3 Z C r' t' where
  rd := hr
  fx := h.fx.trans f
  dom := hd
  g1 := (f.get a1 (h.dom _ _ h.g1) (by have := h.rd.q; have := h.N0; have := h.h1; omega)).trans h.g1
  g2 := (f.get a2 (h.dom _ _ h.g2) (by have := h.rd.q; have := h.N0; have := h.h2; omega)).trans h.g2
  g3 := (f.get a3 (h.dom _ _ h.g3) (by have := h.rd.q; have := h.N0; have := h.h3; omega)).trans h.g3
  N0 := h.N0
  h1 := h.h1
  h2 := h.h2
  h3 := h.h3
  ne := h.ne
  ne2 := h.ne2
theorem Opi.int {s : St} {N q a1 a2 a3 w : Nat} {Z C : List AV} {r : Rr} {t : St} (h : Opi s N q a1 a2 a3 Z C r t) (hok : okW (w : Int) = true) (hw : 0 < w) (hw4 : w ≤ 4) :
    Wf mm 20 [.agg [.ptr q 0], .int .i64 (w : Int)] t fun v t' => v = .int .i64 ((rNum r w).2 : Int) ∧ Opi s N q a1 a2 a3 Z C (rNum r w).1 t' ∧ FrX q t t' :=
  (Int_any h.rd (Nat.le_trans h.N0 h.fx.le) h.dom hok hw hw4).mono fun v t' ⟨h1, h2, h3, h4⟩ => ⟨h1, h.step h2 h3 h4, h3⟩
theorem Opi.num {s : St} {N q a1 a2 a3 w : Nat} {Z C : List AV} {r : Rr} {t : St} (h : Opi s N q a1 a2 a3 Z C r t) (hok : okW (w : Int) = true) (hw : 0 < w) (hw8 : w ≤ 8) :
    Wf mm 40 [.ptr q 0, .int .i64 (w : Int)] t fun v t' => v = .int .u64 ((rNum r w).2 : Int) ∧ Opi s N q a1 a2 a3 Z C (rNum r w).1 t' ∧ FrX q t t' :=
  (Num_any h.rd (Nat.le_trans h.N0 h.fx.le) h.dom hok hw hw8).mono fun v t' ⟨h1, h2, h3, h4⟩ => ⟨h1, h.step h2 h3 h4, h3⟩
theorem Opi.take {s : St} {N q a1 a2 a3 w : Nat} {Z C : List AV} {r : Rr} {t : St} (h : Opi s N q a1 a2 a3 Z C r t) (hw : w < 1000000) :
    Wf mm 41 [.ptr q 0, .int .i64 (w : Int)] t fun v t' => OutB t' t.next v ((rTake r w).2.map u8) ∧ Opi s N q a1 a2 a3 Z C (rTake r w).1 t' ∧ FrX q t t' :=
  (Take_any h.rd (Nat.le_trans h.N0 h.fx.le) h.dom hw).mono fun v t' ⟨h1, h2, h3, h4⟩ => ⟨h2, h.step h1 h3 h4, h3⟩

theorem opi_start {s : St} {N q : Nat} {r : Rr} (h : Rdr s N q r) (hN : N ≤ s.next) (hd : Dom s) (Z C : List AV) : Opi s N q s.next (s.next + 1) (s.next + 2) Z C r (((s.new (.cells [.ptr q 0] false false 0)).new (.cells Z false false 0)).new (.cells C false false 0)) where
  rd := ((h.new hN _).new (by simp only [St.next_new]; omega) _).new (by simp only [St.next_new]; omega) _
  fx := (((FrX.refl q s).new _).new _).new _
  dom := dom_new (dom_new (dom_new hd _) _) _
  g1 := by rw [St.get_new, if_neg (by simp only [St.next_new]; omega), St.get_new, if_neg (by simp only [St.next_new]; omega), St.get_new, if_pos rfl]
  g2 := by rw [St.get_new, if_neg (by simp only [St.next_new]; omega), St.get_new, if_pos (by simp only [St.next_new])]
  g3 := by rw [St.get_new, if_pos (by simp only [St.next_new])]
  N0 := hN
  h1 := Nat.le_refl _
  h2 := by omega
  h3 := by omega
  ne := by omega
  ne2 := by omega
theorem Opi.fin {s : St} {N q a1 a2 a3 : Nat} {Z C : List AV} {r : Rr} {t : St} (h : Opi s N q a1 a2 a3 Z C r t) (Z' : List AV) : Rdr (t.put a2 (.cells Z' false false 0)) N q r ∧ FrX q s (t.put a2 (.cells Z' false false 0)) ∧ Dom (t.put a2 (.cells Z' false false 0)) :=
  ⟨h.rd.put (Nat.le_trans h.N0 h.h2) _, h.fx.put (.inr h.h2) _, (Stp.put h.g2 _).dom h.dom⟩
theorem Opi.grow {s : St} {N q a1 a2 a3 : Nat} {Z C : List AV} {r : Rr} {t t' : St} (h : Opi s N q a1 a2 a3 Z C r t) (st : Stp t t') (hb : ∀ b, b < s.next → t'.get b = t.get b) (hk : ∀ b vs ro z, t.get b = some (.cells vs false ro z) → t'.get b = some (.cells vs false ro z)) : Opi s N q a1 a2 a3 Z C r t' where
  rd := h.rd.fr fun b hb' => hb b (Nat.lt_of_lt_of_le hb' h.N0)
  fx := ⟨Nat.le_trans h.fx.le st.le, fun b hb' hq => (hb b hb').trans (h.fx.get b hb' hq)⟩
  dom := st.dom h.dom
  g1 := hk _ _ _ _ h.g1
  g2 := hk _ _ _ _ h.g2
  g3 := hk _ _ _ _ h.g3
  N0 := h.N0
  h1 := h.h1
  h2 := h.h2
  h3 := h.h3
  ne := h.ne
  ne2 := h.ne2
theorem Opi.new {s : St} {N q a1 a2 a3 : Nat} {Z C : List AV} {r : Rr} {t : St} (h : Opi s N q a1 a2 a3 Z C r t) (o : AObj) : Opi s N q a1 a2 a3 Z C r (t.new o) :=
  h.grow (.new _ _) (fun b hb => by rw [St.get_new, if_neg (by have := h.fx.le; omega)]) fun b vs ro z hb => by rw [St.get_new, if_neg (by have := h.dom _ _ hb; omega)]; exact hb
theorem u32_of {n : Nat} (h : n < 4294967296) : IntKind.u32.wrap (n : Int) = (n : Int) := u32_in (by omega) (by omega)
theorem config_run {s : St} {N q : Nat} {r : Rr} (h : Rdr s N q r) (hN : N ≤ s.next) (hd : Dom s) :
    Wf mm 19 [.agg [.ptr q 0]] s fun v s' => v = .agg (rHead r).2.enc ∧ Rdr s' N q (rHead r).1 ∧ FrX q s s' ∧ Dom s' := by
  refine Wf_enter ft19 (sm (by decide)) (by rfl) ?_
  have ft : (false == true) = false := rfl
  obtain ⟨b1, b2⟩ := rNum_lt (w := 2) h.lt
  obtain ⟨c1, c2⟩ := rNum_lt (w := 4) b2
  obtain ⟨d1, d2⟩ := rNum_lt (w := 4) c2
  have wc := u32_of c1
  have wd := u32_of d1
  have h0 := opi_start h hN hd [.int .i64 0, .int .u32 0, .int .u32 0, .int .i64 0, .int .i64 0, .int .i64 0, .int .i64 0] [.int .i64 0, .int .u32 0, .int .u32 0, .int .i64 0, .int .i64 0, .int .i64 0, .int .i64 0]
  have na1 := h0.ne
  have na2 := h0.ne2
  simp -implicitDefEqProofs only [go_sem, Wk_block, Wk_drawnC, reduceCtorEq, Nat.reduceEqDiff, Nat.reduceAdd, Nat.reduceLeDiff, Nat.reduceLT, Nat.reduceMul, Nat.reduceSub, ↓reduceIte, Int.reduceLT, Int.reduceLE, Int.reduceNeg, Int.reduceAdd, Int.reduceEq, Nat.reduceBneDiff, Nat.reduceBEq, Int.reduceToNat, Int.reduceMul, Int.reduceSub, Int.reduceBEq, Int.reduceBNe, fd19, ft]
  refine Wl_of (h0.int (w := 2) rfl (by omega) (by omega)) ?_
  rintro _ s1 ⟨rfl, h1, -⟩
  have e1 := h1.g1
  have e3 := h1.g3
  simp -implicitDefEqProofs only [go_sem, Wk_block, Wk_drawnC, reduceCtorEq, Nat.reduceEqDiff, Nat.reduceAdd, Nat.reduceLeDiff, Nat.reduceLT, Nat.reduceMul, Nat.reduceSub, ↓reduceIte, Int.reduceLT, Int.reduceLE, Int.reduceNeg, Int.reduceAdd, Int.reduceEq, Nat.reduceBneDiff, Nat.reduceBEq, Int.reduceToNat, Int.reduceMul, Int.reduceSub, Int.reduceBEq, Int.reduceBNe, e1, e3, na1, ft]
  refine Wl_of ((h1.store _).num (w := 4) rfl (by omega) (by omega)) ?_
  clear e1 e3
  rintro _ s2 ⟨rfl, h2, -⟩
  have e1 := h2.g1
  have e3 := h2.g3
  simp -implicitDefEqProofs only [go_sem, Wk_block, Wk_drawnC, reduceCtorEq, Nat.reduceEqDiff, Nat.reduceAdd, Nat.reduceLeDiff, Nat.reduceLT, Nat.reduceMul, Nat.reduceSub, ↓reduceIte, Int.reduceLT, Int.reduceLE, Int.reduceNeg, Int.reduceAdd, Int.reduceEq, Nat.reduceBneDiff, Nat.reduceBEq, Int.reduceToNat, Int.reduceMul, Int.reduceSub, Int.reduceBEq, Int.reduceBNe, e1, e3, na1, wc, ft]
  refine Wl_of ((h2.store _).num (w := 4) rfl (by omega) (by omega)) ?_
  clear e1 e3
  rintro _ s3 ⟨rfl, h3, -⟩
  have e1 := h3.g1
  have e3 := h3.g3
  simp -implicitDefEqProofs only [go_sem, Wk_block, Wk_drawnC, reduceCtorEq, Nat.reduceEqDiff, Nat.reduceAdd, Nat.reduceLeDiff, Nat.reduceLT, Nat.reduceMul, Nat.reduceSub, ↓reduceIte, Int.reduceLT, Int.reduceLE, Int.reduceNeg, Int.reduceAdd, Int.reduceEq, Nat.reduceBneDiff, Nat.reduceBEq, Int.reduceToNat, Int.reduceMul, Int.reduceSub, Int.reduceBEq, Int.reduceBNe, e1, e3, na1, wd, ft]
  refine Wl_of ((h3.store _).int (w := 2) rfl (by omega) (by omega)) ?_
  clear e1 e3
  rintro _ s4 ⟨rfl, h4, -⟩
  have e1 := h4.g1
  have e3 := h4.g3
  simp -implicitDefEqProofs only [go_sem, Wk_block, Wk_drawnC, reduceCtorEq, Nat.reduceEqDiff, Nat.reduceAdd, Nat.reduceLeDiff, Nat.reduceLT, Nat.reduceMul, Nat.reduceSub, ↓reduceIte, Int.reduceLT, Int.reduceLE, Int.reduceNeg, Int.reduceAdd, Int.reduceEq, Nat.reduceBneDiff, Nat.reduceBEq, Int.reduceToNat, Int.reduceMul, Int.reduceSub, Int.reduceBEq, Int.reduceBNe, e1, e3, na1, ft]
  refine Wl_of ((h4.store _).int (w := 2) rfl (by omega) (by omega)) ?_
  clear e1 e3
  rintro _ s5 ⟨rfl, h5, -⟩
  have e1 := h5.g1
  have e3 := h5.g3
  simp -implicitDefEqProofs only [go_sem, Wk_block, Wk_drawnC, reduceCtorEq, Nat.reduceEqDiff, Nat.reduceAdd, Nat.reduceLeDiff, Nat.reduceLT, Nat.reduceMul, Nat.reduceSub, ↓reduceIte, Int.reduceLT, Int.reduceLE, Int.reduceNeg, Int.reduceAdd, Int.reduceEq, Nat.reduceBneDiff, Nat.reduceBEq, Int.reduceToNat, Int.reduceMul, Int.reduceSub, Int.reduceBEq, Int.reduceBNe, e1, e3, na1, ft]
  refine Wl_of ((h5.store _).int (w := 2) rfl (by omega) (by omega)) ?_
  clear e1 e3
  rintro _ s6 ⟨rfl, h6, -⟩
  have e1 := h6.g1
  have e3 := h6.g3
  simp -implicitDefEqProofs only [go_sem, Wk_block, Wk_drawnC, reduceCtorEq, Nat.reduceEqDiff, Nat.reduceAdd, Nat.reduceLeDiff, Nat.reduceLT, Nat.reduceMul, Nat.reduceSub, ↓reduceIte, Int.reduceLT, Int.reduceLE, Int.reduceNeg, Int.reduceAdd, Int.reduceEq, Nat.reduceBneDiff, Nat.reduceBEq, Int.reduceToNat, Int.reduceMul, Int.reduceSub, Int.reduceBEq, Int.reduceBNe, e1, e3, na1, ft]
  refine Wl_of ((h6.store _).int (w := 2) rfl (by omega) (by omega)) ?_
  clear e1 e3
  rintro _ s7 ⟨rfl, h7, -⟩
  have e2 := h7.g2
  have e3 := h7.g3
  simp -implicitDefEqProofs only [go_sem, Wk_block, Wk_drawnC, reduceCtorEq, Nat.reduceEqDiff, Nat.reduceAdd, Nat.reduceLeDiff, Nat.reduceLT, Nat.reduceMul, Nat.reduceSub, ↓reduceIte, Int.reduceLT, Int.reduceLE, Int.reduceNeg, Int.reduceAdd, Int.reduceEq, Nat.reduceBneDiff, Nat.reduceBEq, Int.reduceToNat, Int.reduceMul, Int.reduceSub, Int.reduceBEq, Int.reduceBNe, e2, e3, na2, ft]
  exact ⟨rfl, (h7.store _).fin _⟩

/-- An op's cells. -/
def cellsC (x : Con) (kv wv : AV) : List AV := [.int .i64 x.kind, .int .i64 x.node, .int .i64 x.key, kv] ++ x.blk.map u8 ++ [.int .u32 (x.e : Int), .int .u32 (x.q : Int), .int .i64 x.at_, .int .u8 (x.mask : Int), wv]
theorem op_run {s : St} {N q : Nat} {r : Rr} (h : Rdr s N q r) (hN : N ≤ s.next) (hd : Dom s) :
    Wf mm 21 [.agg [.ptr q 0]] s fun v s' => ∃ kv wv, v = .agg (cellsC (rOp r).2 kv wv) ∧ OutI s' s.next kv (rOp r).2.keys ∧ OutB s' s.next wv ((rOp r).2.keep.map u8) ∧ Rdr s' N q (rOp r).1 ∧ FrX q s s' ∧ Dom s' := by
  refine Wf_enter ft21 (sm (by decide)) (by rfl) ?_
  have ft : (false == true) = false := rfl
  have h0 := opi_start h hN hd [.int .i64 0, .int .i64 0, .int .i64 0, .nilSlice, .int .u8 0, .int .u8 0, .int .u8 0, .int .u8 0, .int .u8 0, .int .u8 0, .int .u8 0, .int .u8 0, .int .u8 0, .int .u8 0, .int .u8 0, .int .u8 0, .int .u8 0, .int .u8 0, .int .u8 0, .int .u8 0, .int .u32 0, .int .u32 0, .int .i64 0, .int .u8 0, .nilSlice]
    [.int .i64 0, .int .i64 0, .int .i64 0, .nilSlice, .int .u8 0, .int .u8 0, .int .u8 0, .int .u8 0, .int .u8 0, .int .u8 0, .int .u8 0, .int .u8 0, .int .u8 0, .int .u8 0, .int .u8 0, .int .u8 0, .int .u8 0, .int .u8 0, .int .u8 0, .int .u8 0, .int .u32 0, .int .u32 0, .int .i64 0, .int .u8 0, .nilSlice]
  simp -implicitDefEqProofs only [go_sem, Wk_block, Wk_drawnC, reduceCtorEq, Nat.reduceEqDiff, Nat.reduceAdd, Nat.reduceLeDiff, Nat.reduceLT, Nat.reduceMul, Nat.reduceSub, ↓reduceIte, Int.reduceLT, Int.reduceLE, Int.reduceNeg, Int.reduceAdd, Int.reduceEq, Nat.reduceBneDiff, Nat.reduceBEq, Int.reduceToNat, Int.reduceMul, Int.reduceSub, Int.reduceBEq, Int.reduceBNe, fd21, ft]
  refine Wl_of (h0.int (w := 1) rfl (by omega) (by omega)) ?_
  rintro _ s1 ⟨rfl, h1, -⟩
  have e1 := h1.g1
  have e3 := h1.g3
  simp -implicitDefEqProofs only [go_sem, Wk_block, Wk_drawnC, reduceCtorEq, Nat.reduceEqDiff, Nat.reduceAdd, Nat.reduceLeDiff, Nat.reduceLT, Nat.reduceMul, Nat.reduceSub, ↓reduceIte, Int.reduceLT, Int.reduceLE, Int.reduceNeg, Int.reduceAdd, Int.reduceEq, Nat.reduceBneDiff, Nat.reduceBEq, Int.reduceToNat, Int.reduceMul, Int.reduceSub, Int.reduceBEq, Int.reduceBNe, e1, e3, ft]
  refine Wl_of ((h1.store _).int (w := 1) rfl (by omega) (by omega)) ?_
  clear e1 e3
  rintro _ s2 ⟨rfl, h2, -⟩
  have e1 := h2.g1
  have e3 := h2.g3
  simp -implicitDefEqProofs only [go_sem, Wk_block, Wk_drawnC, reduceCtorEq, Nat.reduceEqDiff, Nat.reduceAdd, Nat.reduceLeDiff, Nat.reduceLT, Nat.reduceMul, Nat.reduceSub, ↓reduceIte, Int.reduceLT, Int.reduceLE, Int.reduceNeg, Int.reduceAdd, Int.reduceEq, Nat.reduceBneDiff, Nat.reduceBEq, Int.reduceToNat, Int.reduceMul, Int.reduceSub, Int.reduceBEq, Int.reduceBNe, e1, e3, ft]
  refine Wl_of ((h2.store _).int (w := 1) rfl (by omega) (by omega)) ?_
  clear e1 e3
  rintro _ s3 ⟨rfl, h3, -⟩
  have e1 := h3.g1
  have e3 := h3.g3
  simp -implicitDefEqProofs only [go_sem, Wk_block, Wk_drawnC, reduceCtorEq, Nat.reduceEqDiff, Nat.reduceAdd, Nat.reduceLeDiff, Nat.reduceLT, Nat.reduceMul, Nat.reduceSub, ↓reduceIte, Int.reduceLT, Int.reduceLE, Int.reduceNeg, Int.reduceAdd, Int.reduceEq, Nat.reduceBneDiff, Nat.reduceBEq, Int.reduceToNat, Int.reduceMul, Int.reduceSub, Int.reduceBEq, Int.reduceBNe, e1, e3, ft]
  refine Wl_of ((h3.store _).int (w := 1) rfl (by omega) (by omega)) ?_
  clear e1 e3
  rintro _ s4 ⟨rfl, h4, -⟩
  have e1 := h4.g1
  have e3 := h4.g3
  obtain ⟨a1', a2'⟩ := rNum_lt (w := 1) h.lt
  obtain ⟨b1', b2'⟩ := rNum_lt (w := 1) a2'
  obtain ⟨c1', c2'⟩ := rNum_lt (w := 1) b2'
  obtain ⟨m1', m2'⟩ := rNum_lt (w := 1) c2'
  have ro : rOp r = rOp r := rfl
  conv at ro => rhs; unfold rOp
  dsimp only at ro
  rw [ro]
  generalize (rNum r 1).2 = n1 at *
  generalize (rNum (rNum r 1).1 1).2 = n2 at *
  generalize (rNum (rNum (rNum r 1).1 1).1 1).2 = n3 at *
  generalize rNum (rNum (rNum (rNum r 1).1 1).1 1).1 1 = m at *
  have hm : m.2 < 256 := by simpa using m1'
  simp -implicitDefEqProofs only [go_sem, Wk_block, Wk_drawnC, reduceCtorEq, Nat.reduceEqDiff, Nat.reduceAdd, Nat.reduceLeDiff, Nat.reduceLT, Nat.reduceMul, Nat.reduceSub, ↓reduceIte, Int.reduceLT, Int.reduceLE, Int.reduceNeg, Int.reduceAdd, Int.reduceEq, Nat.reduceBneDiff, Nat.reduceBEq, Int.reduceToNat, Int.reduceMul, Int.reduceSub, Int.reduceBEq, Int.reduceBNe, ft]
  have hk0 : OutI s4 s.next .nilSlice ([] : List Int) := .inl ⟨rfl, rfl⟩
  refine loop_ind (fun k ts s' => ∃ (i : Nat) (kv : AV), k = m.2 - i ∧ i ≤ m.2 ∧ ts.get 15 = some (.int .i64 (i : Int)) ∧ ts.get 14 = some (.int .i64 (m.2 : Int)) ∧ ts.get 1 = some (.ptr s.next 0) ∧ ts.get 3 = some (.ptr (s.next + 2) 0) ∧ ts.get 2 = some (.ptr (s.next + 1) 0) ∧ OutI s' s.next kv ((rNums i m.1).2.map fun n : Nat => (n : Int)) ∧
      Opi s N q s.next (s.next + 1) (s.next + 2) [.int .i64 0, .int .i64 0, .int .i64 0, .nilSlice, .int .u8 0, .int .u8 0, .int .u8 0, .int .u8 0, .int .u8 0, .int .u8 0, .int .u8 0, .int .u8 0, .int .u8 0, .int .u8 0, .int .u8 0, .int .u8 0, .int .u8 0, .int .u8 0, .int .u8 0, .int .u8 0, .int .u32 0, .int .u32 0, .int .i64 0, .int .u8 0, .nilSlice]
        [.int .i64 n1, .int .i64 n2, .int .i64 n3, kv, .int .u8 0, .int .u8 0, .int .u8 0, .int .u8 0, .int .u8 0, .int .u8 0, .int .u8 0, .int .u8 0, .int .u8 0, .int .u8 0, .int .u8 0, .int .u8 0, .int .u8 0, .int .u8 0, .int .u8 0, .int .u8 0, .int .u32 0, .int .u32 0, .int .i64 0, .int .u8 0, .nilSlice] (rNums i m.1).1 s') ?_ (n := m.2)
    ⟨0, .nilSlice, rfl, by omega, by simp only [Tr.get_set, Nat.reduceEqDiff, ↓reduceIte, Int.cast_ofNat_Int], by simp only [Tr.get_set, Nat.reduceEqDiff, ↓reduceIte, Int.cast_ofNat_Int], by simp only [Tr.get_set, Nat.reduceEqDiff, ↓reduceIte, Int.cast_ofNat_Int], by simp only [Tr.get_set, Nat.reduceEqDiff, ↓reduceIte, Int.cast_ofNat_Int], by simp only [Tr.get_set, Nat.reduceEqDiff, ↓reduceIte, Int.cast_ofNat_Int], hk0, h4⟩
  clear h0 h1 h2 h3 h4 e1 e3 hk0
  rintro _ ts t0 ⟨i, kv, rfl, hi, g15, g14, g1, g3, g2, ho, hO⟩ IH
  have e1 := hO.g1
  have e2 := hO.g2
  have e3 := hO.g3
  by_cases hlt : i < m.2
  · have hkc := ho.cell
    simp -implicitDefEqProofs only [go_sem, Wk_block, Wk_drawnC, reduceCtorEq, Nat.reduceEqDiff, Nat.reduceAdd, Nat.reduceLeDiff, Nat.reduceLT, Nat.reduceMul, Nat.reduceSub, ↓reduceIte, Int.reduceLT, Int.reduceLE, Int.reduceNeg, Int.reduceAdd, Int.reduceEq, Nat.reduceBneDiff, Nat.reduceBEq, Int.reduceToNat, Int.reduceMul, Int.reduceSub, Int.reduceBEq, Int.reduceBNe, g15, g14, g1, g3, g2, e1, e3, hlt, ft]
    refine Wl_of (hO.int (w := 1) rfl (by omega) (by omega)) ?_
    rintro _ t1 ⟨rfl, hO1, fx1⟩
    have hqs : q < s.next := Nat.lt_of_lt_of_le h.q hN
    have ho1 := ho.frx hqs fx1
    have hrl : (rNums i m.1).2.length = i := (rNums_lt m2' i).2.2
    obtain ⟨kv', t2, happ, ho2, st2, hb2, hk2⟩ := (ho1.new (.cells [.int .i64 ((rNum (rNums i m.1).1 1).2 : Int)] false false 0)).push (by have := hO1.fx.le; simp only [St.next_new]; omega) (by rw [List.length_map, hrl]; omega) ((rNum (rNums i m.1).1 1).2 : Int)
    have hO2 := (hO1.new (.cells [.int .i64 ((rNum (rNums i m.1).1 1).2 : Int)] false false 0)).grow st2 hb2 (hk2 (dom_new hO1.dom _))
    have e3' := hO2.g3
    have hkc' := ho2.cell
    have wi := succ_in (j := i) (by omega)
    have e31 := hO1.g3
    have hsk := ho.same
    have hne : ¬ s.next + 2 = t1.next := by have := hO1.dom _ _ e31; omega
    simp -implicitDefEqProofs only [go_sem, Wk_block, Wk_drawnC, reduceCtorEq, Nat.reduceEqDiff, Nat.reduceAdd, Nat.reduceLeDiff, Nat.reduceLT, Nat.reduceMul, Nat.reduceSub, ↓reduceIte, Int.reduceLT, Int.reduceLE, Int.reduceNeg, Int.reduceAdd, Int.reduceEq, Nat.reduceBneDiff, Nat.reduceBEq, Int.reduceToNat, Int.reduceMul, Int.reduceSub, Int.reduceBEq, Int.reduceBNe, g15, g14, g1, g3, g2, e1, e3, e31, e3', srcA, happ, hkc', hsk, hne, wi, Nat.mul_one, eq_self, Bool.and_self, Bool.and_true, ft]
    refine IH (m.2 - (i + 1)) _ _ (by omega) ⟨i + 1, kv', rfl, by omega, ?_, ?_, ?_, ?_, ?_, ?_, hO2.store _⟩
    · simp only [Tr.get_set, Nat.reduceEqDiff, ↓reduceIte, Int.cast_ofNat_Int]
    · simp only [Tr.get_set, Nat.reduceEqDiff, ↓reduceIte, Int.cast_ofNat_Int, g14]
    · simp only [Tr.get_set, Nat.reduceEqDiff, ↓reduceIte, Int.cast_ofNat_Int, g1]
    · simp only [Tr.get_set, Nat.reduceEqDiff, ↓reduceIte, Int.cast_ofNat_Int, g3]
    · simp only [Tr.get_set, Nat.reduceEqDiff, ↓reduceIte, Int.cast_ofNat_Int, g2]
    · refine OutI.put ?_ e3' _
      rw [rNums, List.map_append]
      exact ho2
  · have : i = m.2 := by omega
    subst this
    have hlf : decide ((m.2 : Int) < (m.2 : Int)) = false := decide_eq_false (by omega)
    have hbd : boundsA 16 16 none none none = some (0, 16, 16) := rfl
    simp -implicitDefEqProofs only [go_sem, Wk_block, Wk_drawnC, reduceCtorEq, Nat.reduceEqDiff, Nat.reduceAdd, Nat.reduceLeDiff, Nat.reduceLT, Nat.reduceMul, Nat.reduceSub, ↓reduceIte, Int.reduceLT, Int.reduceLE, Int.reduceNeg, Int.reduceAdd, Int.reduceEq, Nat.reduceBneDiff, Nat.reduceBEq, Int.reduceToNat, Int.reduceMul, Int.reduceSub, Int.reduceBEq, Int.reduceBNe, g15, g14, g1, g3, g2, e1, e3, hlf, hlt, hbd, ft]
    refine Wl_of (hO.take (w := 16) (by omega)) ?_
    rintro v1 t1 ⟨hb1, hO1, fx1⟩
    have hqs : q < s.next := Nat.lt_of_lt_of_le h.q hN
    have ho1 := ho.frx hqs fx1
    have hsrc := hb1.src
    obtain ⟨-, l2', l3'⟩ := rTake_lt (w := 16) (rNums_lt m2' m.2).2.1
    rw [List.length_map] at hsrc
    have e31 := hO1.g3
    have hbl : (pad16 (rTake (rNums m.2 m.1).1 16).2).length = 16 := by
      unfold pad16
      split
      · simp
      · rename_i hne
        rcases l3' with l3' | l3'
        · exact absurd l3' hne
        · exact l3'
    obtain ⟨k0, t2, hx, hO2, ho2⟩ : ∃ (k0 : Int) (t2 : St), (∀ ts : Tr AV, ts.get 26 = some (.slice (s.next + 2) 4 16 16 false) → ts.get 29 = some v1 → xop (.copy 1 (.t 26) (.t 29)) (evOf ts) t1 = some (.int .i64 k0, t2)) ∧
        Opi s N q s.next (s.next + 1) (s.next + 2) [.int .i64 0, .int .i64 0, .int .i64 0, .nilSlice, .int .u8 0, .int .u8 0, .int .u8 0, .int .u8 0, .int .u8 0, .int .u8 0, .int .u8 0, .int .u8 0, .int .u8 0, .int .u8 0, .int .u8 0, .int .u8 0, .int .u8 0, .int .u8 0, .int .u8 0, .int .u8 0, .int .u32 0, .int .u32 0, .int .i64 0, .int .u8 0, .nilSlice]
          ([.int .i64 n1, .int .i64 n2, .int .i64 n3, kv] ++ (pad16 (rTake (rNums m.2 m.1).1 16).2).map u8 ++ [.int .u32 0, .int .u32 0, .int .i64 0, .int .u8 0, .nilSlice]) (rTake (rNums m.2 m.1).1 16).1 t2 ∧ OutI t2 s.next kv ((rNums m.2 m.1).2.map fun n : Nat => (n : Int)) := by
      rcases l3' with l3' | l3'
      · rw [l3'] at hsrc ⊢
        refine ⟨0, t1, fun ts h26 h29 => ?_, hO1, ho1⟩
        show (match ts.get 26, ts.get 29 with
          | some d, some x => match srcA t1 1 x with
            | none => none
            | some (n, l) => match d with
              | .nilSlice => some (AV.int .i64 0, t1)
              | .tail .. => some (.int .i64 0, t1)
              | .slice b o len _ _ => if min n len = 0 then some (.int .i64 0, t1) else match storeA t1 b o (l.take (min n len * 1)) with
                | some s' => some (.int .i64 (min n len : Nat), s')
                | none => none
              | _ => none
          | _, _ => none) = _
        rw [h26, h29]
        simp only [hsrc]
        rfl
      · have hp : pad16 (rTake (rNums m.2 m.1).1 16).2 = (rTake (rNums m.2 m.1).1 16).2 := by
          unfold pad16
          rw [if_neg]
          intro he
          rw [he] at l3'
          cases l3'
        rw [hp]
        rw [l3'] at hsrc
        generalize (rTake (rNums m.2 m.1).1 16).2 = B at *
        refine ⟨16, _, fun ts h26 h29 => ?_, hO1.store _, ho1.put e31 _⟩
        show (match ts.get 26, ts.get 29 with
          | some d, some x => match srcA t1 1 x with
            | none => none
            | some (n, l) => match d with
              | .nilSlice => some (AV.int .i64 0, t1)
              | .tail .. => some (.int .i64 0, t1)
              | .slice b o len _ _ => if min n len = 0 then some (.int .i64 0, t1) else match storeA t1 b o (l.take (min n len * 1)) with
                | some s' => some (.int .i64 (min n len : Nat), s')
                | none => none
              | _ => none
          | _, _ => none) = _
        rw [h26, h29]
        simp only [hsrc]
        have hst : storeA t1 (s.next + 2) 4 ((B.map u8).take (min 16 16 * 1)) = some (t1.put (s.next + 2) (.cells ([.int .i64 n1, .int .i64 n2, .int .i64 n3, kv] ++ B.map u8 ++ [.int .u32 0, .int .u32 0, .int .i64 0, .int .u8 0, .nilSlice]) false false 0)) := by
          have hl : ((B.map u8).take (min 16 16 * 1)) = B.map u8 := List.take_of_length_le (by simp [l3'])
          rw [hl]
          unfold storeA
          rw [e31]
          simp only
          rw [if_pos ⟨by simp [l3'], allCell_u8 B⟩]
          have : (B.map u8).length = 16 := by simp [l3']
          simp [splice, this]
        rw [hst]
        rfl
    generalize hB : pad16 (rTake (rNums m.2 m.1).1 16).2 = B at *
    match B, hbl with
    | [b0, b1, b2, b3, b4, b5, b6, b7, b8, b9, b10, b11, b12, b13, b14, b15], _ =>
    clear ho1 ho hb1 hsrc l2' l3' fx1 hO1 e31 hO e1 e2 e3 IH
    rw [Wo_copy, hx, Wx_some]
    rotate_left
    · simp only [go_sem, Wk_block, Wk_drawnC, reduceCtorEq, Nat.reduceEqDiff, Nat.reduceAdd, Nat.reduceLeDiff, Nat.reduceLT, Nat.reduceMul, Nat.reduceSub, ↓reduceIte, Int.reduceLT, Int.reduceLE, Int.reduceNeg, Int.reduceAdd, Int.reduceEq, Nat.reduceBneDiff, Nat.reduceBEq, Int.reduceToNat, Int.reduceMul, Int.reduceSub, Int.reduceBEq, Int.reduceBNe, ft]
    · simp only [go_sem, Wk_block, Wk_drawnC, reduceCtorEq, Nat.reduceEqDiff, Nat.reduceAdd, Nat.reduceLeDiff, Nat.reduceLT, Nat.reduceMul, Nat.reduceSub, ↓reduceIte, Int.reduceLT, Int.reduceLE, Int.reduceNeg, Int.reduceAdd, Int.reduceEq, Nat.reduceBneDiff, Nat.reduceBEq, Int.reduceToNat, Int.reduceMul, Int.reduceSub, Int.reduceBEq, Int.reduceBNe, ft]
    have e1 := hO2.g1
    have e3 := hO2.g3
    simp only [List.map_cons, List.map_nil, List.cons_append, List.nil_append] at e3
    obtain ⟨p1, p2⟩ := rNum_lt (w := 4) hO2.rd.lt
    obtain ⟨q1, q2⟩ := rNum_lt (w := 4) p2
    obtain ⟨t1', t2'⟩ := rNum_lt (w := 2) q2
    obtain ⟨m1'', m2''⟩ := rNum_lt (w := 1) t2'
    obtain ⟨k1', k2'⟩ := rNum_lt (w := 1) m2''
    have wp := u32_of p1
    have wq := u32_of q1
    simp -implicitDefEqProofs only [go_sem, Wk_block, Wk_drawnC, reduceCtorEq, Nat.reduceEqDiff, Nat.reduceAdd, Nat.reduceLeDiff, Nat.reduceLT, Nat.reduceMul, Nat.reduceSub, ↓reduceIte, Int.reduceLT, Int.reduceLE, Int.reduceNeg, Int.reduceAdd, Int.reduceEq, Nat.reduceBneDiff, Nat.reduceBEq, Int.reduceToNat, Int.reduceMul, Int.reduceSub, Int.reduceBEq, Int.reduceBNe, g1, g3, g2, e1, ft]
    refine Wl_of (hO2.num (w := 4) rfl (by omega) (by omega)) ?_
    rintro _ t3 ⟨rfl, hO3, fx3⟩
    have ho3 := ho2.frx hqs fx3
    clear e1 e3
    have e1 := hO3.g1
    have e3 := hO3.g3
    simp only [List.map_cons, List.map_nil, List.cons_append, List.nil_append] at e3
    simp -implicitDefEqProofs only [go_sem, Wk_block, Wk_drawnC, reduceCtorEq, Nat.reduceEqDiff, Nat.reduceAdd, Nat.reduceLeDiff, Nat.reduceLT, Nat.reduceMul, Nat.reduceSub, ↓reduceIte, Int.reduceLT, Int.reduceLE, Int.reduceNeg, Int.reduceAdd, Int.reduceEq, Nat.reduceBneDiff, Nat.reduceBEq, Int.reduceToNat, Int.reduceMul, Int.reduceSub, Int.reduceBEq, Int.reduceBNe, g1, g3, g2, e1, e3, wp, ft]
    refine Wl_of ((hO3.store _).num (w := 4) rfl (by omega) (by omega)) ?_
    rintro _ t4 ⟨rfl, hO4, fx4⟩
    have ho4 := (ho3.put e3 _).frx hqs fx4
    clear e1 e3
    have e1 := hO4.g1
    have e3 := hO4.g3
    simp -implicitDefEqProofs only [go_sem, Wk_block, Wk_drawnC, reduceCtorEq, Nat.reduceEqDiff, Nat.reduceAdd, Nat.reduceLeDiff, Nat.reduceLT, Nat.reduceMul, Nat.reduceSub, ↓reduceIte, Int.reduceLT, Int.reduceLE, Int.reduceNeg, Int.reduceAdd, Int.reduceEq, Nat.reduceBneDiff, Nat.reduceBEq, Int.reduceToNat, Int.reduceMul, Int.reduceSub, Int.reduceBEq, Int.reduceBNe, g1, g3, g2, e1, e3, wq, ft]
    refine Wl_of ((hO4.store _).int (w := 2) rfl (by omega) (by omega)) ?_
    rintro _ t5 ⟨rfl, hO5, fx5⟩
    have ho5 := (ho4.put e3 _).frx hqs fx5
    clear e1 e3
    have e1 := hO5.g1
    have e3 := hO5.g3
    generalize hRT : rNum (rNum (rNum (rTake (rNums m.2 m.1).1 16).1 4).1 4).1 2 = rt at *
    have wt : IntKind.i64.wrap ((rt.2 : Int) - 1) = (rt.2 : Int) - 1 := i64_in (by omega) (by simp at t1'; omega)
    simp -implicitDefEqProofs only [go_sem, Wk_block, Wk_drawnC, reduceCtorEq, Nat.reduceEqDiff, Nat.reduceAdd, Nat.reduceLeDiff, Nat.reduceLT, Nat.reduceMul, Nat.reduceSub, ↓reduceIte, Int.reduceLT, Int.reduceLE, Int.reduceNeg, Int.reduceAdd, Int.reduceEq, Nat.reduceBneDiff, Nat.reduceBEq, Int.reduceToNat, Int.reduceMul, Int.reduceSub, Int.reduceBEq, Int.reduceBNe, g1, g3, g2, e1, e3, wt, ft]
    refine Wl_of ((hO5.store _).int (w := 1) rfl (by omega) (by omega)) ?_
    rintro _ t6 ⟨rfl, hO6, fx6⟩
    have ho6 := (ho5.put e3 _).frx hqs fx6
    clear e1 e3
    have e1 := hO6.g1
    have e3 := hO6.g3
    have wm : IntKind.u8.wrap ((rNum rt.1 1).2 : Int) = ((rNum rt.1 1).2 : Int) := u8_in (by omega) (by simp at m1''; omega)
    simp -implicitDefEqProofs only [go_sem, Wk_block, Wk_drawnC, reduceCtorEq, Nat.reduceEqDiff, Nat.reduceAdd, Nat.reduceLeDiff, Nat.reduceLT, Nat.reduceMul, Nat.reduceSub, ↓reduceIte, Int.reduceLT, Int.reduceLE, Int.reduceNeg, Int.reduceAdd, Int.reduceEq, Nat.reduceBneDiff, Nat.reduceBEq, Int.reduceToNat, Int.reduceMul, Int.reduceSub, Int.reduceBEq, Int.reduceBNe, g1, g3, g2, e1, e3, wm, ft]
    refine Wl_of ((hO6.store _).int (w := 1) rfl (by omega) (by omega)) ?_
    rintro _ t7 ⟨rfl, hO7, fx7⟩
    have ho7 := (ho6.put e3 _).frx hqs fx7
    clear e1 e3
    have e1 := hO7.g1
    simp -implicitDefEqProofs only [go_sem, Wk_block, Wk_drawnC, reduceCtorEq, Nat.reduceEqDiff, Nat.reduceAdd, Nat.reduceLeDiff, Nat.reduceLT, Nat.reduceMul, Nat.reduceSub, ↓reduceIte, Int.reduceLT, Int.reduceLE, Int.reduceNeg, Int.reduceAdd, Int.reduceEq, Nat.reduceBneDiff, Nat.reduceBEq, Int.reduceToNat, Int.reduceMul, Int.reduceSub, Int.reduceBEq, Int.reduceBNe, g1, g3, g2, e1, ft]
    refine Wl_of (hO7.take (w := (rNum (rNum rt.1 1).1 1).2) (by simp at k1'; omega)) ?_
    rintro wv t8 ⟨hwv, hO8, fx8⟩
    have ho8 := ho7.frx hqs fx8
    have e12 := hO8.g1
    have e2 := hO8.g2
    have e3 := hO8.g3
    have hwc := hwv.cell
    have e16 := hO6.g1
    have hkc := ho8.cell
    have hu8 : ∀ b, (u8 b).cell = true := fun _ => rfl
    have hsp : D.same (AV.ptr q 0) (AV.ptr q 0) = true := by simp [D.same]
    simp -implicitDefEqProofs only [go_sem, Wk_block, Wk_drawnC, reduceCtorEq, Nat.reduceEqDiff, Nat.reduceAdd, Nat.reduceLeDiff, Nat.reduceLT, Nat.reduceMul, Nat.reduceSub, ↓reduceIte, Int.reduceLT, Int.reduceLE, Int.reduceNeg, Int.reduceAdd, Int.reduceEq, Nat.reduceBneDiff, Nat.reduceBEq, Int.reduceToNat, Int.reduceMul, Int.reduceSub, Int.reduceBEq, Int.reduceBNe, g1, g3, g2, e1, e12, e16, e3, e2, hwc, hkc, hu8, hsp, Bool.and_self, Bool.and_true, ft]
    have hO9 := hO8.store [AV.int IntKind.i64 n1, AV.int IntKind.i64 n2, AV.int IntKind.i64 n3, kv, u8 b0, u8 b1, u8 b2, u8 b3, u8 b4, u8 b5, u8 b6, u8 b7, u8 b8, u8 b9, u8 b10, u8 b11, u8 b12, u8 b13, u8 b14, u8 b15, AV.int IntKind.u32 (rNum (rTake (rNums m.2 m.1).1 16).1 4).2,
      AV.int IntKind.u32 (rNum (rNum (rTake (rNums m.2 m.1).1 16).1 4).1 4).2, AV.int IntKind.i64 (rt.2 - 1), AV.int IntKind.u8 (rNum rt.1 1).2, wv]
    refine ⟨kv, wv, rfl, (ho8.put e3 _).put hO9.g2 _, ((hwv.le hO7.fx.le).put2 e3 (by simp) _).put2 hO9.g2 (by simp) _, hO9.fin _⟩
end Go.Proofs.YteiiblpnegjjlaaGreat.Lw
namespace Go.Proofs.YteiiblpnegjjlaaGreat.Lw
open D
set_option linter.unusedSimpArgs false
set_option linter.unusedVariables false
set_option maxRecDepth 10000

/-- A loop, and what is behind it. -/
theorem Wk_loop_post {M : Mach} {ro : Option Nat} {K : List Fk} {id : Nat} {a : PC} {ts : Tr AV} {ds : List Nat} {s : St} {Q : Post} (Pp : Tr AV → St → Prop) (h : Wk M ro [] (.loop a) ts ds s fun x ts' ds' s' => (x = .normal ∨ x = .exit id) ∧ ds' = ds ∧ Pp ts' s')
    (hr : ∀ ts' s', Pp ts' s' → Wr M ro K .normal ts' ds s' Q) : Wk M ro (.bl id :: K) (.loop a) ts ds s Q := by
  obtain ⟨x, ts', ds', s', h1, h2⟩ := h
  rw [Wr_nil] at h2
  obtain ⟨hx, rfl, hp⟩ := h2
  refine ⟨x, ts', ds', s', h1, ?_⟩
  rcases hx with rfl | rfl
  · rw [Wr_bl]; exact hr _ _ hp
  · rw [Wr_bl_exit, if_pos rfl]; exact hr _ _ hp

/-- An op that was read. -/
def sopOf (x : Con) (kv wv : AV) : Sop := ⟨cellsC x kv wv, x.kind, x.node, x.key, x.at_, x.keys, x.blk, x.e, x.q, x.mask, x.keep, kv, wv⟩
theorem OutI.rw {s : St} {N : Nat} {w : AV} {L : List Int} (h : OutI s N w L) : Rw s w (L.map (AV.int .i64)) := by
  rcases h with ⟨rfl, rfl⟩ | ⟨p, rfl, h1, h2, h3, h4⟩
  · exact ⟨fun _ => rfl, fun j h => by simp at h, rfl, rfl⟩
  · exact rw_row h4 (by simp) _ _
theorem OutB.bs {s : St} {N : Nat} {w : AV} {L : List Nat} (h : OutB s N w (L.map u8)) (hl : ∀ c ∈ L, c < 256) : Bs s w L := by
  rcases h with ⟨rfl, h⟩ | ⟨p, rfl, h, _⟩ | ⟨p, rfl, h1, h2, h3, h4⟩
  · obtain rfl := List.map_eq_nil_iff.1 h
    exact ⟨fun _ => rfl, by simp, fun j h => by simp at h, fun h => by simp at h, rfl, rfl⟩
  · obtain rfl := List.map_eq_nil_iff.1 h
    exact ⟨fun _ => rfl, by simp, fun j h => by simp at h, fun h => by simp at h, rfl, rfl⟩
  · rw [List.length_map]
    exact bs_new h4 hl
theorem OutB.sr {s : St} {N : Nat} {w : AV} {L : List Nat} (h : OutB s N w (L.map u8)) : Sr s w L := by
  intro s' hn
  rcases h with ⟨rfl, h⟩ | ⟨p, rfl, h, h2, h3, h4⟩ | ⟨p, rfl, h1, h2, h3, h4⟩
  · obtain rfl := List.map_eq_nil_iff.1 h
    rfl
  · obtain rfl := List.map_eq_nil_iff.1 h
    show (match loadA s' p 0 (0 * 1) with | some l => some (0, l) | none => none) = _
    have : loadA s' p 0 (0 * 1) = some [] := by unfold loadA; rw [hn _ _ h4]; simp
    rw [this]; rfl
  · show (match loadA s' p 0 ((L.map u8).length * 1) with | some l => some ((L.map u8).length, l) | none => none) = _
    have : loadA s' p 0 ((L.map u8).length * 1) = some (L.map u8) := by unfold loadA; rw [hn _ _ h4]; simp [List.take_of_length_le]
    rw [this, List.length_map]
theorem u8c (b : Nat) : (u8 b).cell = true := rfl
theorem AV.cell_int (k : IntKind) (n : Int) : (AV.int k n).cell = true := rfl
theorem sopOk_of {s : St} {N : Nat} {x : Con} {kv wv : AV} (h1 : OutI s N kv x.keys) (h2 : OutB s N wv (x.keep.map u8)) (hx : ConRd x) : SopOk s (sopOf x kv wv) := by
  obtain ⟨kind, node, key, at_, keys, blk, e, q, mask, keep⟩ := x
  have hb : blk.length = 16 := hx.blen
  have hk := h1.cell.1
  have hw := h2.cell.1
  have hks := h1.same
  have hws := h2.same
  have hbl : ∀ c ∈ blk, c < 256 := hx.blt
  have hkr := h1.rw
  have hkl : keys.length < 256 := hx.ksl
  have hwb := h2.bs hx.klt
  have hwl : keep.length < 256 := hx.kl
  have hml : keys.length ≤ maxLen := by unfold maxLen; omega
  have hml2 : keep.length ≤ maxLen := by unfold maxLen; omega
  have e1 : e < 4294967296 := hx.elt
  have e2 : q < 4294967296 := hx.qlt
  have e3 : mask < 256 := hx.mlt
  match blk, hb with
  | [b0, b1, b2, b3, b4, b5, b6, b7, b8, b9, b10, b11, b12, b13, b14, b15], _ =>
  exact ⟨rfl, by simp [sopOf, cellsC, allCell, u8c, hk, hw, AV.cell_int], rfl, rfl, rfl, rfl, rfl, rfl, rfl, rfl, rfl, rfl, rfl, rfl, hbl, e1, e2, e3, hkr, hml, hwb, hml2, h2.tx, h2.sr, by simp [sopOf, cellsC, sames, D.same, u8, hks, hws]⟩

/-- A row of ops that append made; or none yet. -/
def OutO (s : St) (N : Nat) (w : AV) (l : List Sop) : Prop := (w = .nilSlice ∧ l = []) ∨ (∃ p, w = .slice p 0 0 0 false ∧ l = [] ∧ N ≤ p ∧ p < s.next ∧ s.get p = some (.cells [] false false 0)) ∨
  ∃ p, w = .slice p 0 l.length l.length true ∧ 0 < l.length ∧ N ≤ p ∧ p < s.next ∧ s.get p = some (.cells (l.flatMap Sop.cells) true false 25)
theorem OutO.cell {s : St} {N : Nat} {w : AV} {l : List Sop} (h : OutO s N w l) : w.cell = true ∧ w.cells = [w] := by
  rcases h with ⟨rfl, _⟩ | ⟨p, rfl, _⟩ | ⟨p, rfl, _⟩ <;> exact ⟨rfl, rfl⟩
theorem OutO.frx {s s' : St} {N q : Nat} {w : AV} {l : List Sop} (h : OutO s N w l) (hq : q < N) (f : FrX q s s') : OutO s' N w l := by
  rcases h with h | ⟨p, h1, h2, h3, h4, h5⟩ | ⟨p, h1, h2, h3, h4, h5⟩
  · exact .inl h
  · exact .inr (.inl ⟨p, h1, h2, h3, Nat.lt_of_lt_of_le h4 f.le, (f.get p h4 (by omega)).trans h5⟩)
  · exact .inr (.inr ⟨p, h1, h2, h3, Nat.lt_of_lt_of_le h4 f.le, (f.get p h4 (by omega)).trans h5⟩)
theorem OutO.new {s : St} {N : Nat} {w : AV} {l : List Sop} (h : OutO s N w l) (o : AObj) : OutO (s.new o) N w l := by
  rcases h with h | ⟨p, h1, h2, h3, h4, h5⟩ | ⟨p, h1, h2, h3, h4, h5⟩
  · exact .inl h
  · exact .inr (.inl ⟨p, h1, h2, h3, by simp only [St.next_new]; omega, by rw [St.get_new, if_neg (by omega)]; exact h5⟩)
  · exact .inr (.inr ⟨p, h1, h2, h3, by simp only [St.next_new]; omega, by rw [St.get_new, if_neg (by omega)]; exact h5⟩)
theorem ops_len {l : List Sop} (h : ∀ x ∈ l, x.cells.length = 25) : (l.flatMap Sop.cells).length = l.length * 25 := by
  induction l with
  | nil => rfl
  | cons a l ih =>
    rw [List.flatMap_cons, List.length_append, ih fun x hx => h x (List.mem_cons_of_mem _ hx), h a (List.mem_cons_self ..), List.length_cons]
    omega
theorem ops_at : ∀ {l : List Sop}, (∀ x ∈ l, x.cells.length = 25) → ∀ (i : Nat) (h : i < l.length), ((l.flatMap Sop.cells).drop (i * 25)).take 25 = l[i].cells
  | x :: l, hl, 0, _ => by
    have := hl x (List.mem_cons_self ..)
    rw [List.flatMap_cons, Nat.zero_mul, List.drop_zero, List.take_append_of_le_length (by omega), List.take_of_length_le (by omega)]
    rfl
  | x :: l, hl, i + 1, h => by
    have h1 := hl x (List.mem_cons_self ..)
    have := ops_at (fun y hy => hl y (List.mem_cons_of_mem _ hy)) i (by simpa using h)
    rw [List.flatMap_cons, show (i + 1) * 25 = x.cells.length + i * 25 by omega, List.drop_length_add_append]
    exact this
theorem OutO.rds {s : St} {N : Nat} {w : AV} {l : List Sop} (h : OutO s N w l) (hl : ∀ x ∈ l, x.cells.length = 25) : RdS s w l := by
  rcases h with ⟨rfl, rfl⟩ | ⟨p, rfl, rfl, _⟩ | ⟨p, rfl, h1, h2, h3, h4⟩
  · exact ⟨fun _ => rfl, fun j h => by simp at h, rfl, rfl⟩
  · exact ⟨fun _ => rfl, fun j h => by simp at h, rfl, rfl⟩
  · refine ⟨fun _ => rfl, fun j hj => ⟨p, 0, _, _, _, _, fun s' => idx1_slice hj, h4, h3, ?_, ?_⟩, rfl, rfl⟩
    · rw [ops_len hl]; omega
    · rw [Nat.zero_add]; exact ops_at hl j hj
theorem OutO.push {s : St} {N : Nat} {w : AV} {l : List Sop} (h : OutO s N w l) (hN : N ≤ s.next) (hl : l.length < 1000000) (hc : ∀ x ∈ l, x.cells.length = 25) (x : Sop) (hx : allCell x.cells = true) :
    ∃ w' s', appendA 25 112 s w 1 x.cells = some (w', s') ∧ OutO s' N w' (l ++ [x]) ∧ Stp s s' ∧ (∀ b, b < N → s'.get b = s.get b) ∧ (Dom s → ∀ b o, s.get b = some o → (∀ vs, o ≠ .cells vs true false 25) → s'.get b = some o) := by
  have hnew : ∀ o : AObj, Dom s → ∀ b o', s.get b = some o' → (s.new o).get b = some o' := fun o hd b o' hb => by
    rw [St.get_new, if_neg (by have := hd _ _ hb; omega)]; exact hb
  rcases h with ⟨rfl, rfl⟩ | ⟨p, rfl, rfl, h2, h3, h4⟩ | ⟨p, rfl, h1, h2, h3, h4⟩
  · refine ⟨.slice s.next 0 1 1 true, s.new (.cells x.cells true false 25), rfl, .inr (.inr ⟨s.next, rfl, by simp, hN, Nat.lt_succ_self _, ?_⟩), .new _ _, fun b hb => ?_, fun hd b o hb _ => hnew _ hd b o hb⟩
    · rw [St.get_new, if_pos rfl]; simp
    · rw [St.get_new, if_neg (by omega)]
  · refine ⟨.slice s.next 0 1 1 true, s.new (.cells x.cells true false 25), ?_, .inr (.inr ⟨s.next, rfl, by simp, hN, Nat.lt_succ_self _, ?_⟩), .new _ _, fun b hb => ?_, fun hd b o hb _ => hnew _ hd b o hb⟩
    · have hlo : loadA s p 0 (0 * 25) = some [] := by unfold loadA; rw [h4]; simp
      unfold appendA
      simp only [Nat.zero_add, hlo]
      rw [if_neg (by omega), if_pos (by omega)]
      simp [newA]
    · rw [St.get_new, if_pos rfl]; simp
    · rw [St.get_new, if_neg (by omega)]
  · have hln := ops_len hc
    refine ⟨.slice s.next 0 (l.length + 1) (l.length + 1) true, (s.drop p).new (.cells (l.flatMap Sop.cells ++ x.cells) true false 25), ?_, .inr (.inr ⟨s.next, by simp, by simp, hN, Nat.lt_succ_self _, ?_⟩), (Stp.drop _ _).trans (.new _ _), fun b hb => ?_, fun hd b o hb ho => ?_⟩
    · have hlo : loadA s p 0 (l.length * 25) = some (l.flatMap Sop.cells) := by
        unfold loadA
        rw [h4]
        simp only [hln]
        rw [if_pos (by omega), List.drop_zero, List.take_of_length_le (by omega)]
      unfold appendA
      simp only [hlo, h4]
      rw [if_neg (by omega), if_pos (by omega)]
      simp [hx, hln]
    · rw [St.get_new, if_pos (by simp)]
      simp
    · rw [St.get_new, if_neg (by simp; omega), St.get_drop, if_neg (by omega)]
    · have hbp : b ≠ p := by
        rintro rfl
        rw [h4] at hb
        cases hb
        exact ho _ rfl
      rw [St.get_new, if_neg (by have := hd _ _ hb; simp; omega), St.get_drop, if_neg hbp]; exact hb
/-- An op that was read, where it lies. -/
structure OpIn (s : St) (N : Nat) (x : Sop) : Prop where
  is : ∃ kv wv, x = sopOf x.con kv wv ∧ OutI s N kv x.con.keys ∧ OutB s N wv (x.con.keep.map u8)
  rd : ConRd x.con
theorem OpIn.ok {s : St} {N : Nat} {x : Sop} (h : OpIn s N x) : SopOk s x := by
  obtain ⟨kv, wv, e, h1, h2⟩ := h.is
  rw [e]
  exact sopOk_of h1 h2 h.rd
theorem OutB.keep {s s' : St} {N : Nat} {w : AV} {L : List AV} (h : OutB s N w L) (hn : s.next ≤ s'.next) (f : ∀ b o, s.get b = some o → (∀ vs, o ≠ .cells vs true false 25) → s'.get b = some o) : OutB s' N w L := by
  rcases h with h | ⟨p, h1, h2, h3, h4, h5⟩ | ⟨p, h1, h2, h3, h4, h5⟩
  · exact .inl h
  · exact .inr (.inl ⟨p, h1, h2, h3, by omega, f p _ h5 (by simp)⟩)
  · exact .inr (.inr ⟨p, h1, h2, h3, by omega, f p _ h5 (by simp)⟩)
theorem OpIn.keep {s s' : St} {N : Nat} {x : Sop} (h : OpIn s N x) (hn : s.next ≤ s'.next) (f : ∀ b o, s.get b = some o → (∀ vs, o ≠ .cells vs true false 25) → s'.get b = some o) : OpIn s' N x := by
  obtain ⟨kv, wv, e, h1, h2⟩ := h.is
  exact ⟨⟨kv, wv, e, h1.keep hn fun b vs hb => f b _ hb (by simp), h2.keep hn f⟩, h.rd⟩
theorem OpIn.frx {s s' : St} {N q : Nat} {x : Sop} (h : OpIn s N x) (hq : q < N) (f : FrX q s s') : OpIn s' N x := by
  obtain ⟨kv, wv, e, h1, h2⟩ := h.is
  exact ⟨⟨kv, wv, e, h1.frx hq f, h2.frx hq f⟩, h.rd⟩
theorem OutI.le {s : St} {N N' : Nat} {w : AV} {L : List Int} (h : OutI s N w L) (k : N' ≤ N) : OutI s N' w L := by
  rcases h with h | ⟨p, h1, h2, h3, h4⟩
  · exact .inl h
  · exact .inr ⟨p, h1, h2, by omega, h4⟩
theorem OpIn.le {s : St} {N N' : Nat} {x : Sop} (h : OpIn s N x) (k : N' ≤ N) : OpIn s N' x := by
  obtain ⟨kv, wv, e, h1, h2⟩ := h.is
  exact ⟨⟨kv, wv, e, h1.le k, h2.le k⟩, h.rd⟩
theorem OpIn.new {s : St} {N : Nat} {x : Sop} (h : OpIn s N x) (o : AObj) : OpIn (s.new o) N x := by
  obtain ⟨kv, wv, e, h1, h2⟩ := h.is
  exact ⟨⟨kv, wv, e, h1.new o, h2.new o⟩, h.rd⟩
end Go.Proofs.YteiiblpnegjjlaaGreat.Lw
namespace Go.Proofs.YteiiblpnegjjlaaGreat.Lw
open D
set_option linter.unusedSimpArgs false
set_option linter.unusedVariables false
set_option maxRecDepth 10000

/-- Bytes that can be copied. -/
def Cl (s : St) (v : AV) (L : List Nat) : Prop := ∀ s' : St, (∀ b o, s.get b = some o → s'.get b = some o) → Dom s' → ∃ u sc, mm.L.call 39 [v] s' = some (u, sc) ∧ OutB sc s'.next u (L.map u8) ∧ ∀ b, b < s'.next → sc.get b = s'.get b
theorem OutB.cl {s : St} {N : Nat} {w : AV} {L : List Nat} (h : OutB s N w (L.map u8)) (hL : L.length < 100000000) : Cl s w L := by
  intro s' hn hd
  have hc : Lw.cloned s' w = some (L.map u8) := by
    rcases h with ⟨rfl, h⟩ | ⟨p, rfl, h, h2, h3, h4⟩ | ⟨p, rfl, h1, h2, h3, h4⟩
    · rw [h]; rfl
    · unfold Lw.cloned
      have : loadA s' p 0 0 = some [] := by unfold loadA; rw [hn _ _ h4]; simp
      rw [h]
      simp [this]
    · unfold Lw.cloned
      have : loadA s' p 0 (L.map u8).length = some (L.map u8) := by unfold loadA; rw [hn _ _ h4]; simp [List.take_of_length_le]
      simp only [this]
      simp
      exact hL
  obtain ⟨_, u, sc, h1, h2, h3, h4, h5⟩ := cloned_run hc hd
  exact ⟨u, sc, h1, h2, h5⟩
theorem cl_arg {s : St} {v : AV} (h : ArgOk s (.slice (.int .u8)) v) {L : List Nat} (hB : Bs s v L) (hL : L.length < 100000000) : Cl s v L := by
  intro s' hn hd
  have hB' := hB.mono hn
  have hl := hB.len s
  have hnw : OutB (s'.new (.cells [] false false 0)) s'.next (.slice s'.next 0 0 0 false) [] := .inr (.inl ⟨s'.next, rfl, rfl, Nat.le_refl _, by simp, by rw [St.get_new, if_pos rfl]⟩)
  have hfn : ∀ b, b < s'.next → (s'.new (.cells [] false false 0)).get b = s'.get b := fun b hb => by rw [St.get_new, if_neg (by omega)]
  rcases argOk_slice h with rfl | ⟨a, rfl⟩ | ⟨b, o, len, cap, vs, rfl, h1, h2, h3, h4, h5, h6⟩
  · cases L with
    | nil => exact ⟨_, _, Clone_nil s', .inl ⟨rfl, rfl⟩, fun _ _ => rfl⟩
    | cons c r => simp [len1] at hl; omega
  · cases L with
    | nil =>
      cases a with
      | none =>
        refine ⟨.nilSlice, s', of_Wf (Wf_enter ft39 (sm (by decide)) (by rfl) ?_), .inl ⟨rfl, rfl⟩, fun _ _ => rfl⟩
        simp -implicitDefEqProofs only [go_sem, Wk_block, Wk_drawnC, reduceCtorEq, Nat.reduceEqDiff, Nat.reduceAdd, Nat.reduceLeDiff, Nat.reduceLT, Nat.reduceMul, Nat.reduceSub, ↓reduceIte, Int.reduceLT, Int.reduceLE, Int.reduceNeg, Int.reduceAdd, Int.reduceEq, Nat.reduceBneDiff, Nat.reduceBEq, Int.reduceToNat, Int.reduceMul, Int.reduceSub, Int.reduceBEq, Int.reduceBNe, fd39, rawNil, Option.isNone_none]
      | some a =>
        refine ⟨_, _, of_Wf (Wf_enter ft39 (sm (by decide)) (by rfl) ?_), hnw, hfn⟩
        have ft : (false == true) = false := rfl
        have ha : appendA 1 1 (s'.new (.cells [] false false 0)) (.slice s'.next 0 0 0 false) 0 [] = some (.slice s'.next 0 0 0 false, s'.new (.cells [] false false 0)) := by
          unfold appendA
          simp
        simp -implicitDefEqProofs only [go_sem, Wk_block, Wk_drawnC, reduceCtorEq, Nat.reduceEqDiff, Nat.reduceAdd, Nat.reduceLeDiff, Nat.reduceLT, Nat.reduceMul, Nat.reduceSub, ↓reduceIte, Int.reduceLT, Int.reduceLE, Int.reduceNeg, Int.reduceAdd, Int.reduceEq, Nat.reduceBneDiff, Nat.reduceBEq, Int.reduceToNat, Int.reduceMul, Int.reduceSub, Int.reduceBEq, Int.reduceBNe, fd39, ft, srcA, ha, rawNil, Option.isNone_some, Nat.zero_mul]
    | cons c r => simp [len1] at hl; omega
  · have hl2 : len = L.length := by simp [len1] at hl; omega
    subst hl2
    have hld : loadA s' b o L.length = some (L.map u8) := by
      cases L with
      | nil =>
        unfold loadA
        rw [hn _ _ h3]
        have h7 : o + cap * 1 ≤ vs.length := by simpa [Ty.size] using h5.2
        simp
        omega
      | cons c r =>
        obtain ⟨b', o', c', lo', e, hld⟩ := hB'.src (by simp)
        cases e
        exact hld
    have hc := Clone_raw (c := cap) (lo := false) hld (by omega) hd
    cases L with
    | nil => exact ⟨_, _, hc, hnw, hfn⟩
    | cons c r =>
      refine ⟨_, _, hc, .inr (.inr ⟨s'.next + 1, by simp, by simp, by omega, by simp, by rw [St.get_new, if_pos (by simp)]⟩), fun b hb => ?_⟩
      rw [St.get_new, if_neg (by simp; omega), St.get_new, if_neg (by omega)]

theorem New_run {s : St} {v : AV} {L : List Nat} (h : Cl s v L) (hl : ∀ c ∈ L, c < 256) (hL : L.length < 1000000000) (hd : Dom s) :
    Wf mm 18 [v] s fun w s' => ∃ q, w = .ptr q 0 ∧ s.next ≤ q ∧ Rdr s' s'.next q (L, false) ∧ Fr s s' ∧ Dom s' := by
  refine ((Wf_enter ft18 (sm (by decide)) (by rfl) ?_ : Wf mm 18 [v] s fun w s' => ∃ q, w = .ptr q 0 ∧ s.next ≤ q ∧ Rdr s' s'.next q (L, false) ∧ ∀ b, b < s.next → s'.get b = s.get b).stp mm_st).mono ?_
  rotate_left
  · rintro w s' ⟨⟨q, h1, h2, h3, h4⟩, st⟩
    exact ⟨q, h1, h2, h3, ⟨st.le, h4⟩, st.dom hd⟩
  have ft : (false == true) = false := rfl
  obtain ⟨u, sc, hc, ho, hf⟩ := h s (fun _ _ h => h) hd
  have st := (lim_stp mm_st).call hc
  have huc := ho.cell
  simp -implicitDefEqProofs only [go_sem, Wk_block, Wk_drawnC, reduceCtorEq, Nat.reduceEqDiff, Nat.reduceAdd, Nat.reduceLeDiff, Nat.reduceLT, Nat.reduceMul, Nat.reduceSub, ↓reduceIte, Int.reduceLT, Int.reduceLE, Int.reduceNeg, Int.reduceAdd, Int.reduceEq, Nat.reduceBneDiff, Nat.reduceBEq, Int.reduceToNat, Int.reduceMul, Int.reduceSub, Int.reduceBEq, Int.reduceBNe, fd18, Wl_eq hc, huc, ft]
  have hs := st.le
  refine ⟨sc.next, rfl, hs, ⟨⟨u, false, 0, by rw [St.get_new, if_pos rfl], ?_⟩, hl, hL, Nat.lt_succ_self _⟩, fun b hb => ?_⟩
  · rcases ho with ⟨rfl, h⟩ | ⟨p, rfl, h, h2, h3, h4⟩ | ⟨p, rfl, h1, h2, h3, h4⟩
    · exact .inl ⟨rfl, List.map_eq_nil_iff.1 h⟩
    · exact .inr (.inl ⟨p, rfl, List.map_eq_nil_iff.1 h, by omega, by rw [St.get_new, if_neg (by omega)]; exact h4⟩)
    · refine .inr (.inr (.inr ⟨p, [], by simp, by simpa using h1, by omega, by rw [St.get_new, if_neg (by omega)]; exact h4⟩))
  · rw [if_neg (by omega)]
    exact hf b hb

theorem Failed_eq {s : St} {N q : Nat} {r : Rr} (h : Rdr s N q r) : mm.L.call 22 [.ptr q 0] s = some (.bool r.2, s) := by
  obtain ⟨rest, lo, z, h1, h2⟩ := h.get
  refine of_Wf (Wf_enter ft22 (sm (by decide)) (by rfl) ?_)
  simp -implicitDefEqProofs only [go_sem, Wk_block, Wk_drawnC, reduceCtorEq, Nat.reduceEqDiff, Nat.reduceAdd, Nat.reduceLeDiff, Nat.reduceLT, Nat.reduceMul, Nat.reduceSub, ↓reduceIte, Int.reduceLT, Int.reduceLE, Int.reduceNeg, Int.reduceAdd, Int.reduceEq, Nat.reduceBneDiff, Nat.reduceBEq, Int.reduceToNat, Int.reduceMul, Int.reduceSub, Int.reduceBEq, Int.reduceBNe, fd22, h1]
def zeroCfg : List AV := [.int .i64 0, .int .u32 0, .int .u32 0, .int .i64 0, .int .i64 0, .int .i64 0, .int .i64 0]
theorem rOps_con : ∀ (n : Nat) (r : Rr), (rOps n r).length ≤ n
  | 0, _ => Nat.le_refl _
  | n + 1, r => by
    rw [rOps, List.length_cons]
    split
    · simp
    · have := rOps_con n (rOp r).1
      omega

theorem encA_lt {c : Cfg} {l : List Con} (h : ∀ x ∈ l, (∀ b ∈ x.blk, b < 256) ∧ ∀ b ∈ x.keep, b < 256) : ∀ b ∈ encA c l, b < 256 := by
  intro b hb
  unfold encA encHead at hb
  simp only [List.mem_append] at hb
  rcases hb with ((hb | hb) | hb) | hb
  · exact lebs_lt _ _ _ hb
  · exact lebs_lt _ _ _ hb
  · exact lebs_lt _ _ _ hb
  · obtain ⟨x, hx, hb⟩ := List.mem_flatMap.1 hb
    unfold encC at hb
    simp only [List.mem_append] at hb
    rcases hb with (((((hb | hb) | hb) | hb) | hb) | hb) | hb
    · exact lebs_lt _ _ _ hb
    · exact lebs_lt _ _ _ hb
    · exact (h x hx).1 _ hb
    · exact lebs_lt _ _ _ hb
    · exact lebs_lt _ _ _ hb
    · exact lebs_lt _ _ _ hb
    · exact (h x hx).2 _ hb
theorem encA_len {c : Cfg} {l : List Con} (hb : ∀ x ∈ l, x.blk.length = 16) (h : plainA c l = true) : (encA c l).length ≤ 140420 := by
  unfold plainA at h
  rw [Bool.and_eq_true, Bool.not_eq_true', Bool.not_eq_true', Bool.or_eq_false_iff] at h
  obtain ⟨⟨h1, h2⟩, -⟩ := h
  have h1 : l.length ≤ 400 := by simpa using h1
  have := flat_len l fun x hx => ⟨hb x hx, by
    have := List.any_eq_false.1 h2 x hx
    simpa using this⟩
  unfold encA encHead
  simp only [List.length_append, lebs_len, List.length_cons, List.length_nil]
  omega
theorem FrX.then' {x : Nat} {a b c : St} (h : FrX x a b) (hn : b.next ≤ c.next) (k : ∀ y, y < a.next → c.get y = b.get y) : FrX x a c := ⟨Nat.le_trans h.le hn, fun y hy hx => (k y hy).trans (h.get y hy hx)⟩
theorem Read_run {s : St} {v : AV} {L : List Nat} (hC : Cl s v L) (hB : Bs s v L) (hL : L.length < 10000000) (hd : Dom s) :
    Wf mm 7 [v] s fun w s' => (okB L = true → ∃ u l, w = .tup [.agg (parse L).1.enc, u, .int .i64 0] ∧ RdS s' u l ∧ (∀ x ∈ l, SopOk s' x ∧ ConRd x.con) ∧ l.map Sop.con = (parse L).2) ∧ (okB L = false → w = .tup [.agg zeroCfg, .nilSlice, .int .i64 241]) ∧ Fr s s' ∧ Dom s' := by
  refine Wf_enter ft7 (sm (by decide)) (by rfl) ?_
  have ft : (false == true) = false := rfl
  have tf : (true == false) = false := rfl
  have hn0 := keeps_new hd (.cells zeroCfg false false 0)
  have d0 := dom_new hd (.cells zeroCfg false false 0)
  have f0 : Fr s (s.new (.cells zeroCfg false false 0)) := (Fr.refl s).new _
  have g0 : (s.new (.cells zeroCfg false false 0)).get s.next = some (.cells zeroCfg false false 0) := by rw [St.get_new, if_pos rfl]
  have n0 : (s.new (.cells zeroCfg false false 0)).next = s.next + 1 := rfl
  unfold zeroCfg at hn0 d0 f0 g0 n0
  simp -implicitDefEqProofs only [go_sem, Wk_block, Wk_drawnC, reduceCtorEq, Nat.reduceEqDiff, Nat.reduceAdd, Nat.reduceLeDiff, Nat.reduceLT, Nat.reduceMul, Nat.reduceSub, ↓reduceIte, Int.reduceLT, Int.reduceLE, Int.reduceNeg, Int.reduceAdd, Int.reduceEq, Nat.reduceBneDiff, Nat.reduceBEq, Int.reduceToNat, Int.reduceMul, Int.reduceSub, Int.reduceBEq, Int.reduceBNe, fd7, ft]
  obtain ⟨a2, ha2⟩ : ∃ a2, s.next = a2 := ⟨_, rfl⟩
  rw [ha2] at g0 n0 ⊢
  generalize s.new (.cells [.int .i64 0, .int .u32 0, .int .u32 0, .int .i64 0, .int .i64 0, .int .i64 0, .int .i64 0] false false 0) = s0 at hn0 d0 f0 g0 n0 ⊢
  refine Wl_of (New_run (fun s' hs' => hC s' fun b o hb => hs' b o (hn0 b o hb)) hB.lt (by omega) d0) ?_
  rintro _ s1 ⟨q, rfl, hq0, hr, f1, d1⟩
  have g1 := (f1.get a2 (by omega)).trans g0
  have hqs := hr.q
  have hr1 := hr.new (Nat.le_refl _) (.cells [.ptr q 0] false false 0)
  have d1' := dom_new d1 (.cells [.ptr q 0] false false 0)
  have g5 : (s1.new (.cells [.ptr q 0] false false 0)).get s1.next = some (.cells [.ptr q 0] false false 0) := by rw [St.get_new, if_pos rfl]
  simp -implicitDefEqProofs only [go_sem, Wk_block, Wk_drawnC, reduceCtorEq, Nat.reduceEqDiff, Nat.reduceAdd, Nat.reduceLeDiff, Nat.reduceLT, Nat.reduceMul, Nat.reduceSub, ↓reduceIte, Int.reduceLT, Int.reduceLE, Int.reduceNeg, Int.reduceAdd, Int.reduceEq, Nat.reduceBneDiff, Nat.reduceBEq, Int.reduceToNat, Int.reduceMul, Int.reduceSub, Int.reduceBEq, Int.reduceBNe, ft]
  refine Wl_of (config_run hr1 (by simp) d1') ?_
  rintro _ s2 ⟨rfl, hr2, f2, d2⟩
  have hqn : ¬ s1.next = q := by omega
  have g52 := (f2.get s1.next (by simp) (by omega)).trans g5
  have g22 := (f2.get a2 (by have := f1.le; simp only [St.next_new]; omega) (by omega)).trans ((St.get_new ..).trans ((if_neg (by have := f1.le; omega)).trans g1))
  have n2 : s1.next + 1 ≤ s2.next := f2.le
  generalize hc : (rHead (L, false)).2 = c at *
  have hce : c.enc.length = 7 := rfl
  have hce2 : 7 ≤ c.enc.length := Nat.le_refl 7
  have hct : List.take 7 c.enc = c.enc := rfl
  have hca : allCell c.enc = true := rfl
  have hr2' := hr2.new (Nat.le_of_succ_le n2) (.cells c.enc false false 0)
  have d2' := dom_new d2 (.cells c.enc false false 0)
  obtain ⟨a6, ha6⟩ : ∃ a6, s2.next = a6 := ⟨_, rfl⟩
  have g53 : (s2.new (.cells c.enc false false 0)).get s1.next = some (.cells [.ptr q 0] false false 0) := by rw [St.get_new, if_neg (by omega)]; exact g52
  have g23 : (s2.new (.cells c.enc false false 0)).get a2 = _ := (St.get_new ..).trans ((if_neg (by have := f1.le; omega)).trans g22)
  have g63 : (s2.new (.cells c.enc false false 0)).get a6 = some (.cells c.enc false false 0) := by rw [St.get_new, if_pos ha6.symm]
  simp -implicitDefEqProofs only [go_sem, Wk_block, Wk_drawnC, reduceCtorEq, Nat.reduceEqDiff, Nat.reduceAdd, Nat.reduceLeDiff, Nat.reduceLT, Nat.reduceMul, Nat.reduceSub, ↓reduceIte, Int.reduceLT, Int.reduceLE, Int.reduceNeg, Int.reduceAdd, Int.reduceEq, Nat.reduceBneDiff, Nat.reduceBEq, Int.reduceToNat, Int.reduceMul, Int.reduceSub, Int.reduceBEq, Int.reduceBNe, g52, g53, hce, hct, hca, ft]
  rw [ha6]
  refine Wl_of (Int_any hr2' (by simp only [St.next_new]; omega) d2' (w := 2) rfl (by omega) (by omega)) ?_
  rintro _ s3 ⟨rfl, hr3, f3, d3⟩
  have hqs2 := hr2.q_lt d2
  have hqN : q < s1.next := hr.q
  have g54 := (f3.get s1.next (by simp only [St.next_new]; omega) (by omega)).trans g53
  have g24 := (f3.get a2 (by have := f1.le; simp only [St.next_new]; omega) (by omega)).trans g23
  have g64 := (f3.get a6 (by simp only [St.next_new]; omega) (by omega)).trans g63
  have fs3 : Fr s s3 := by
    have h1 : Fr s s1 := (show Fr s s0 from f0).trans f1
    have h2 : FrX q s1 s3 := (((FrX.refl q s1).new _).trans f2).new _ |>.trans f3
    exact frx_fr h1 h2 (by omega)
  have hmany : rMany L = rNum (rHead (L, false)).1 2 := rfl
  have hpar : (parse L).1 = c := by rw [← hc]; rfl
  have hpar2 : (parse L).2 = rOps (min (rMany L).2 400) (rMany L).1 := rfl
  rw [hmany] at hpar2
  generalize rNum (rHead (L, false)).1 2 = mn at *
  obtain ⟨n, hnn⟩ : ∃ n, min mn.2 400 = n := ⟨_, rfl⟩
  have hmin : (if 400 < (mn.2 : Int) then (400 : Int) else (mn.2 : Int)) = (n : Int) := by
    split <;> omega
  rw [hnn] at hpar2
  have hn4 : n ≤ 400 := by omega
  simp -implicitDefEqProofs only [go_sem, Wk_block, Wk_drawnC, reduceCtorEq, Nat.reduceEqDiff, Nat.reduceAdd, Nat.reduceLeDiff, Nat.reduceLT, Nat.reduceMul, Nat.reduceSub, ↓reduceIte, Int.reduceLT, Int.reduceLE, Int.reduceNeg, Int.reduceAdd, Int.reduceEq, Nat.reduceBneDiff, Nat.reduceBEq, Int.reduceToNat, Int.reduceMul, Int.reduceSub, Int.reduceBEq, Int.reduceBNe, hmin, ft]
  refine Wk_loop_post (fun ts s' => ∃ (u : AV) (l : List Sop), ts.get 7 = some u ∧ ts.get 6 = some (.ptr a6 0) ∧ ts.get 2 = some (.ptr a2 0) ∧ ts.get 0 = some v ∧ OutO s' s3.next u l ∧ (∀ x ∈ l, OpIn s' s3.next x) ∧ l.map Sop.con = rOps n mn.1 ∧ FrX q s3 s' ∧ Dom s') ?_ ?_
  · refine loop_ind (fun m ts s' => ∃ (i : Nat) (u : AV) (l : List Sop) (r' : Rr), m = n - i ∧ i ≤ n ∧ ts.get 18 = some (.int .i64 (i : Int)) ∧ ts.get 17 = some (.int .i64 (n : Int)) ∧ ts.get 5 = some (.ptr s1.next 0) ∧ ts.get 7 = some u ∧ ts.get 6 = some (.ptr a6 0) ∧ ts.get 2 = some (.ptr a2 0) ∧ ts.get 0 = some v ∧
        OutO s' s3.next u l ∧ (∀ x ∈ l, OpIn s' s3.next x) ∧ l.map Sop.con ++ rOps (n - i) r' = rOps n mn.1 ∧ l.length = i ∧ Rdr s' s1.next q r' ∧ FrX q s3 s' ∧ Dom s') ?_ (n := n)
      ⟨0, .nilSlice, [], mn.1, rfl, by omega, by simp only [Tr.get_set, Nat.reduceEqDiff, ↓reduceIte, Int.cast_ofNat_Int], by simp only [Tr.get_set, Nat.reduceEqDiff, ↓reduceIte, Int.cast_ofNat_Int], by simp only [Tr.get_set, Nat.reduceEqDiff, ↓reduceIte, Int.cast_ofNat_Int], by simp only [Tr.get_set, Nat.reduceEqDiff, ↓reduceIte, Int.cast_ofNat_Int], by simp only [Tr.get_set, Nat.reduceEqDiff, ↓reduceIte, Int.cast_ofNat_Int], by simp only [Tr.get_set, Nat.reduceEqDiff, ↓reduceIte, Int.cast_ofNat_Int], by simp only [Tr.get_set, Nat.reduceEqDiff, ↓reduceIte, Int.cast_ofNat_Int], .inl ⟨rfl, rfl⟩, by simp, rfl, rfl, hr3, FrX.refl _ _, d3⟩
    rintro _ ts t0 ⟨i, u, l, r', rfl, hi, g18, g17, g5', g7, g6, g2', g0', hO, hops, hcon, hll, hrd, fx, dd⟩ IH
    have hN3 : s1.next ≤ s3.next := by have := f3.le; simp only [St.next_new] at this; omega
    have hq3 : q < s3.next := by omega
    by_cases hlt : i < n
    · have e5 := (fx.get s1.next (by have := f3.le; simp only [St.next_new] at this; omega) (by omega)).trans g54
      simp -implicitDefEqProofs only [go_sem, Wk_block, Wk_drawnC, reduceCtorEq, Nat.reduceEqDiff, Nat.reduceAdd, Nat.reduceLeDiff, Nat.reduceLT, Nat.reduceMul, Nat.reduceSub, ↓reduceIte, Int.reduceLT, Int.reduceLE, Int.reduceNeg, Int.reduceAdd, Int.reduceEq, Nat.reduceBneDiff, Nat.reduceBEq, Int.reduceToNat, Int.reduceMul, Int.reduceSub, Int.reduceBEq, Int.reduceBNe, g18, g17, g5', g7, e5, hlt, ft]
      refine Wl_of (op_run hrd (Nat.le_trans hN3 fx.le) dd) ?_
      rintro _ t1 ⟨kv, wv, rfl, hkv, hwv, hrd1, fx1, dd1⟩
      have hx : OpIn t1 t0.next (sopOf (rOp r').2 kv wv) := ⟨⟨kv, wv, rfl, hkv, hwv⟩, (rOp_ok hrd.lt).1⟩
      have hxo := hx.ok
      have hXl := hxo.len
      have hXc := hxo.cell
      have hXe : (sopOf (rOp r').2 kv wv).cells = cellsC (rOp r').2 kv wv := rfl
      have hXn : (sopOf (rOp r').2 kv wv).con = (rOp r').2 := rfl
      rw [← hXe]
      generalize sopOf (rOp r').2 kv wv = x at *
      have h25 : ∀ y ∈ l, y.cells.length = 25 := fun y hy => (hops y hy).ok.len
      obtain ⟨u', t2, happ, hO2, st2, hb2, hk2⟩ := ((hO.frx hq3 fx1).new (.cells x.cells false false 0)).push (by have := fx.le; have := fx1.le; simp only [St.next_new]; omega) (by omega) h25 x hXc
      have hk2 := hk2 (dom_new dd1 _)
      have hsrc : srcA (t1.new (.cells x.cells false false 0)) 25 (.slice t1.next 0 1 1 false) = some (1, x.cells) := by
        show (match loadA (t1.new (.cells x.cells false false 0)) t1.next 0 (1 * 25) with | some l => some (1, l) | none => none) = _
        have : loadA (t1.new (.cells x.cells false false 0)) t1.next 0 (1 * 25) = some x.cells := by
          unfold loadA
          rw [St.get_new, if_pos rfl]
          simp [hXl, List.take_of_length_le]
        rw [this]
      have e51 := (fx1.get s1.next (dd _ _ e5) (by omega)).trans e5
      have e52 : t2.get s1.next = some (.cells [.ptr q 0] false false 0) := hk2 _ _ (by rw [St.get_new, if_neg (by have := dd1 _ _ e51; omega)]; exact e51) (by simp)
      have hrd2 : Rdr t2 s1.next q (rOp r').1 := (hrd1.new (by have := fx.le; have := fx1.le; omega) (.cells x.cells false false 0)).fr fun b hb => hb2 b (by omega)
      have fx2 : FrX q s3 t2 := FrX.then' ((fx.trans fx1).new (.cells x.cells false false 0)) st2.le fun b hb => hb2 b hb
      have hops2 : ∀ y ∈ l ++ [x], OpIn t2 s3.next y := by
        intro y hy
        rcases List.mem_append.1 hy with hy | hy
        · exact (((hops y hy).frx hq3 fx1).new _).keep st2.le hk2
        · rw [List.mem_singleton.1 hy]
          exact ((hx.le fx.le).new _).keep st2.le hk2
      have wi := succ_in (j := i) (by omega)
      have hrs : rOps (n - i) r' = x.con :: (if (rOp r').1.2 then [] else rOps (n - (i + 1)) (rOp r').1) := by
        rw [show n - i = (n - (i + 1)) + 1 by omega, rOps, ← hXn]
      have huc := hO2.cell
      cases hf : (rOp r').1.2
      · have hfe := Failed_eq hrd2
        rw [hf] at hfe hrs
        simp -implicitDefEqProofs only [go_sem, Wk_block, Wk_drawnC, reduceCtorEq, Nat.reduceEqDiff, Nat.reduceAdd, Nat.reduceLeDiff, Nat.reduceLT, Nat.reduceMul, Nat.reduceSub, ↓reduceIte, Int.reduceLT, Int.reduceLE, Int.reduceNeg, Int.reduceAdd, Int.reduceEq, Nat.reduceBneDiff, Nat.reduceBEq, Int.reduceToNat, Int.reduceMul, Int.reduceSub, Int.reduceBEq, Int.reduceBNe, g18, g17, g5', g7, hsrc, happ, e52, Wl_eq hfe, hXl, List.append_nil, List.drop_succ_cons, List.drop_zero, wi, Nat.mul_one, Nat.one_mul, eq_self, ft]
        refine IH (n - (i + 1)) _ _ (by omega) ⟨i + 1, u', l ++ [x], (rOp r').1, rfl, by omega, ?_, ?_, ?_, ?_, ?_, ?_, ?_, hO2, hops2, ?_, by simp [hll], hrd2, fx2, st2.dom (dom_new dd1 _)⟩
        · simp only [Tr.get_set, Nat.reduceEqDiff, ↓reduceIte, Int.cast_ofNat_Int]
        · simp only [Tr.get_set, Nat.reduceEqDiff, ↓reduceIte, Int.cast_ofNat_Int, g17]
        · simp only [Tr.get_set, Nat.reduceEqDiff, ↓reduceIte, Int.cast_ofNat_Int, g5']
        · simp only [Tr.get_set, Nat.reduceEqDiff, ↓reduceIte, Int.cast_ofNat_Int]
        · simp only [Tr.get_set, Nat.reduceEqDiff, ↓reduceIte, Int.cast_ofNat_Int, g6]
        · simp only [Tr.get_set, Nat.reduceEqDiff, ↓reduceIte, Int.cast_ofNat_Int, g2']
        · simp only [Tr.get_set, Nat.reduceEqDiff, ↓reduceIte, Int.cast_ofNat_Int, g0']
        · rw [← hcon, hrs]
          simp
      · have hfe := Failed_eq hrd2
        rw [hf] at hfe hrs
        simp -implicitDefEqProofs only [go_sem, Wk_block, Wk_drawnC, reduceCtorEq, Nat.reduceEqDiff, Nat.reduceAdd, Nat.reduceLeDiff, Nat.reduceLT, Nat.reduceMul, Nat.reduceSub, ↓reduceIte, Int.reduceLT, Int.reduceLE, Int.reduceNeg, Int.reduceAdd, Int.reduceEq, Nat.reduceBneDiff, Nat.reduceBEq, Int.reduceToNat, Int.reduceMul, Int.reduceSub, Int.reduceBEq, Int.reduceBNe, g18, g17, g5', g7, hsrc, happ, e52, Wl_eq hfe, hXl, List.append_nil, List.drop_succ_cons, List.drop_zero, wi, Nat.mul_one, Nat.one_mul, eq_self, ft]
        rw [Wr_nil]
        refine ⟨.inr rfl, rfl, u', l ++ [x], ?_, ?_, ?_, ?_, hO2, hops2, ?_, fx2, st2.dom (dom_new dd1 _)⟩
        · simp only [Tr.get_set, Nat.reduceEqDiff, ↓reduceIte, Int.cast_ofNat_Int]
        · simp only [Tr.get_set, Nat.reduceEqDiff, ↓reduceIte, Int.cast_ofNat_Int, g6]
        · simp only [Tr.get_set, Nat.reduceEqDiff, ↓reduceIte, Int.cast_ofNat_Int, g2']
        · simp only [Tr.get_set, Nat.reduceEqDiff, ↓reduceIte, Int.cast_ofNat_Int, g0']
        · rw [← hcon, hrs]
          simp
    · have : i = n := by omega
      subst this
      have hlf : decide ((i : Int) < (i : Int)) = false := decide_eq_false (by omega)
      simp -implicitDefEqProofs only [go_sem, Wk_block, Wk_drawnC, reduceCtorEq, Nat.reduceEqDiff, Nat.reduceAdd, Nat.reduceLeDiff, Nat.reduceLT, Nat.reduceMul, Nat.reduceSub, ↓reduceIte, Int.reduceLT, Int.reduceLE, Int.reduceNeg, Int.reduceAdd, Int.reduceEq, Nat.reduceBneDiff, Nat.reduceBEq, Int.reduceToNat, Int.reduceMul, Int.reduceSub, Int.reduceBEq, Int.reduceBNe, g18, g17, hlf, hlt, ft]
      rw [Wr_nil]
      rw [Nat.sub_self] at hcon
      refine ⟨.inr rfl, rfl, u, l, ?_, ?_, ?_, ?_, hO, hops, by simpa [rOps] using hcon, fx, dd⟩
      · simp only [Tr.get_set, Nat.reduceEqDiff, ↓reduceIte, Int.cast_ofNat_Int, g7]
      · simp only [Tr.get_set, Nat.reduceEqDiff, ↓reduceIte, Int.cast_ofNat_Int, g6]
      · simp only [Tr.get_set, Nat.reduceEqDiff, ↓reduceIte, Int.cast_ofNat_Int, g2']
      · simp only [Tr.get_set, Nat.reduceEqDiff, ↓reduceIte, Int.cast_ofNat_Int, g0']
  · rintro ts t0 ⟨u, l, g7, g6, g2', g0', hO, hops, hcon, fx, dd⟩
    have e6 := (fx.get a6 (d3 _ _ g64) (by omega)).trans g64
    have e2 := (fx.get a2 (d3 _ _ g24) (by omega)).trans g24
    have fs : Fr s t0 := frx_fr fs3 fx (by have := f0.le; have := f1.le; omega)
    have h25 : ∀ y ∈ l, y.cells.length = 25 := fun y hy => (hops y hy).ok.len
    have hRd := hO.rds h25
    have hll : l.length ≤ 400 := by
      have := congrArg List.length hcon
      rw [List.length_map] at this
      have := rOps_con n mn.1
      omega
    have hcok : CfgOk c := by
      rw [← hc]
      exact (rHead_ok (r := (L, false)) hB.lt).1
    simp -implicitDefEqProofs only [go_sem, Wk_block, Wk_drawnC, reduceCtorEq, Nat.reduceEqDiff, Nat.reduceAdd, Nat.reduceLeDiff, Nat.reduceLT, Nat.reduceMul, Nat.reduceSub, ↓reduceIte, Int.reduceLT, Int.reduceLE, Int.reduceNeg, Int.reduceAdd, Int.reduceEq, Nat.reduceBneDiff, Nat.reduceBEq, Int.reduceToNat, Int.reduceMul, Int.reduceSub, Int.reduceBEq, Int.reduceBNe, g7, g6, g2', g0', e6, hce2, hct, ft]
    refine Wl_of (Bytes_run c l hRd (fun y hy => (hops y hy).ok) (fun y hy => by have := (hops y hy).rd.ksl; have e : y.keys.length = y.con.keys.length := rfl; omega) dd (by omega) hcok) ?_
    rintro w1 t1 ⟨hw1, hw0, fa, da⟩
    have e61 := (fa.get a6 (dd _ _ e6)).trans e6
    have e21 := (fa.get a2 (dd _ _ e2)).trans e2
    have fs1 := fs.trans fa
    have hpl : plainS c l = plainA (parse L).1 (parse L).2 := by rw [plain_cons, hcon, ← hpar2, hpar]
    have hokB : okB L = (plainS c l && (encA c (l.map Sop.con) == L)) := by
      unfold okB
      rw [hpl, hcon, ← hpar2, hpar]
    cases hp : plainS c l
    · rw [hw0 hp]
      rw [hp, Bool.false_and] at hokB
      simp -implicitDefEqProofs only [go_sem, Wk_block, Wk_drawnC, reduceCtorEq, Nat.reduceEqDiff, Nat.reduceAdd, Nat.reduceLeDiff, Nat.reduceLT, Nat.reduceMul, Nat.reduceSub, ↓reduceIte, Int.reduceLT, Int.reduceLE, Int.reduceNeg, Int.reduceAdd, Int.reduceEq, Nat.reduceBneDiff, Nat.reduceBEq, Int.reduceToNat, Int.reduceMul, Int.reduceSub, Int.reduceBEq, Int.reduceBNe, g7, g6, g2', g0', e61, e21, hce2, hct, ft]
      exact ⟨fun h => (by rw [hokB] at h; cases h), fun _ => rfl, fs1.put (by omega) _, (Stp.put e21 _).dom da⟩
    · obtain ⟨u1, rfl, ho1⟩ := hw1 hp
      rw [hp, Bool.true_and] at hokB
      have hEq := EqB_run (L := encA c (l.map Sop.con)) (M := L) (s := t1) ((ho1.bs (encA_lt (by
        intro x hx
        obtain ⟨y, hy, rfl⟩ := List.mem_map.1 hx
        exact ⟨(hops y hy).rd.blt, (hops y hy).rd.klt⟩))).rw) ((hB.mono (fr_keeps fs1 hd)).rw) (by
        have := encA_len (c := c) (l := l.map Sop.con) (by
          intro x hx
          obtain ⟨y, hy, rfl⟩ := List.mem_map.1 hx
          exact (hops y hy).rd.blen) (by rw [← plain_cons]; exact hp)
        omega)
      cases hq : (encA c (l.map Sop.con) == L)
      · rw [hq] at hokB hEq
        simp -implicitDefEqProofs only [go_sem, Wk_block, Wk_drawnC, reduceCtorEq, Nat.reduceEqDiff, Nat.reduceAdd, Nat.reduceLeDiff, Nat.reduceLT, Nat.reduceMul, Nat.reduceSub, ↓reduceIte, Int.reduceLT, Int.reduceLE, Int.reduceNeg, Int.reduceAdd, Int.reduceEq, Nat.reduceBneDiff, Nat.reduceBEq, Int.reduceToNat, Int.reduceMul, Int.reduceSub, Int.reduceBEq, Int.reduceBNe, g7, g6, g2', g0', e61, e21, Wl_eq hEq, hce2, hct, ft]
        exact ⟨fun h => (by rw [hokB] at h; cases h), fun _ => rfl, fs1.put (by omega) _, (Stp.put e21 _).dom da⟩
      · rw [hq] at hokB hEq
        have hce3 : c.enc.length ≤ 7 := Nat.le_refl 7
        simp -implicitDefEqProofs only [go_sem, Wk_block, Wk_drawnC, reduceCtorEq, Nat.reduceEqDiff, Nat.reduceAdd, Nat.reduceLeDiff, Nat.reduceLT, Nat.reduceMul, Nat.reduceSub, ↓reduceIte, Int.reduceLT, Int.reduceLE, Int.reduceNeg, Int.reduceAdd, Int.reduceEq, Nat.reduceBneDiff, Nat.reduceBEq, Int.reduceToNat, Int.reduceMul, Int.reduceSub, Int.reduceBEq, Int.reduceBNe, g7, g6, g2', g0', e61, e21, Wl_eq hEq, hce, hce2, hce3, hct, hca, List.append_nil, List.drop_succ_cons, List.drop_zero, ft]
        have ha23 : a2 < s3.next := d3 _ _ g24
        have fx2 : FrX a2 t0 (t1.put a2 (.cells c.enc false false 0)) := (fa.x a2).put (.inl rfl) _
        exact ⟨fun _ => ⟨u, l, by rw [hpar], (hO.frx ha23 fx2).rds h25, fun x hx => ⟨((hops x hx).frx ha23 fx2).ok, (hops x hx).rd⟩, by rw [hcon, hpar2]⟩, fun h => (by rw [hokB] at h; cases h), fs1.put (by omega) _, (Stp.put e21 _).dom da⟩
end Go.Proofs.YteiiblpnegjjlaaGreat.Lw
namespace Go.Proofs.YteiiblpnegjjlaaGreat.Lw
open D
set_option linter.unusedSimpArgs false
set_option linter.unusedVariables false
set_option maxRecDepth 10000


/-- Bytes of which parts can be copied. -/
def SlOk (s : St) (v : AV) (L : List Nat) : Prop := ∀ s' : St, (∀ b o, s.get b = some o → s'.get b = some o) → ∀ at_ n : Nat, at_ + n ≤ L.length → ∃ v', sliceA 1 v (some (.int .i64 (at_ : Int))) (some (.int .i64 ((at_ + n : Nat) : Int))) none = some v' ∧ srcA s' 1 v' = some (n, ((L.drop at_).take n).map u8)
theorem SlOk.mono {s s' : St} {v : AV} {L : List Nat} (h : SlOk s v L) (hn : ∀ b o, s.get b = some o → s'.get b = some o) : SlOk s' v L := fun s2 h2 => h s2 fun b o hb => h2 b o (hn b o hb)
theorem slOk_arg {s : St} {v : AV} (h : ArgOk s (.slice (.int .u8)) v) {L : List Nat} (hB : Bs s v L) : SlOk s v L := by
  intro s' hn at_ n han
  have hB' := hB.mono hn
  have hl := hB.len s
  rcases argOk_slice h with rfl | ⟨a, rfl⟩ | ⟨b, o, len, cap, vs, rfl, h1, h2, h3, h4, h5, h6⟩
  · have : L = [] := by
      cases L with
      | nil => rfl
      | cons c r => simp [len1] at hl; omega
    subst this
    have e1 : at_ = 0 := by simp at han; omega
    have e2 : n = 0 := by simp at han; omega
    subst e1; subst e2
    exact ⟨.nilSlice, rfl, rfl⟩
  · have : L = [] := by
      cases L with
      | nil => rfl
      | cons c r => simp [len1] at hl; omega
    subst this
    have e1 : at_ = 0 := by simp at han; omega
    have e2 : n = 0 := by simp at han; omega
    subst e1; subst e2
    exact ⟨.raw (.slice a 0 0), rfl, rfl⟩
  · have hl2 : len = L.length := by simp [len1] at hl; omega
    subst hl2
    have hcap : o + cap * 1 ≤ vs.length := by simpa [Ty.size] using h5.2
    have hb : boundsA L.length cap (some (.int .i64 (at_ : Int))) (some (.int .i64 ((at_ + n : Nat) : Int))) none = some (at_, at_ + n, cap) := by
      unfold boundsA
      simp only [bound_nat (k := at_ + n) (n := cap) (by omega), bound_nat (k := at_) (n := at_ + n) (by omega)]
    refine ⟨.slice b (if cap = at_ then o else o + at_ * 1) (at_ + n - at_) (cap - at_) false, by unfold sliceA; simp only [hb]; simp, ?_⟩
    rw [Nat.add_sub_cancel_left]
    have hlo : loadA s' b (if cap = at_ then o else o + at_ * 1) (n * 1) = some (((L.drop at_).take n).map u8) := by
      unfold loadA
      rw [hn _ _ h3]
      cases n with
      | zero =>
        simp
        split <;> omega
      | succ n =>
        have hca : ¬ cap = at_ := by omega
        obtain ⟨b', o', c', lo', e, hld⟩ := hB'.src (by omega)
        cases e
        unfold loadA at hld
        rw [hn _ _ h3] at hld
        simp only [hca, if_false, Nat.mul_one] at hld ⊢
        rw [if_pos (by omega)] at hld
        rw [if_pos (by omega)]
        have e2 : (vs.drop o).take L.length = L.map u8 := by simpa using hld
        congr 1
        rw [List.map_take, List.map_drop, ← e2, List.drop_take, List.take_take, List.drop_drop, Nat.min_eq_left (by omega)]
    show (match loadA s' b (if cap = at_ then o else o + at_ * 1) (n * 1) with | some l => some (n, l) | none => none) = _
    rw [hlo]

theorem sameOp_con {x y : Sop} (h : x.con = y.con) : sameOp x y = true := by
  have h' := h
  simp only [Sop.con, Con.mk.injEq] at h'
  obtain ⟨h1, h2, h3, h4, h5, h6, h7, h8, h9, h10⟩ := h'
  unfold sameOp
  simp [h1, h2, h3, h4, h5, h6, h7, h8, h9, h10]
theorem SameOps_run {l k : List Sop} {v w : AV} {s : St} (hv : RdS s v l) (hw : RdS s w k) (hl : ∀ x ∈ l, SopOk s x) (hk : ∀ x ∈ k, SopOk s x) (hz : ∀ x ∈ l, x.keys.length ≤ 1000 ∧ x.keep.length ≤ 1000) (hd : Dom s) (hL : l.length < 1000000) (he : l.map Sop.con = k.map Sop.con) :
    Wf mm 9 [v, w] s fun b s' => b = .bool true ∧ Fr s s' ∧ Dom s' := by
  refine Wf_enter ft9 (sm (by decide)) (by rfl) ?_
  have ft : (false == true) = false := rfl
  have tf : (true == false) = false := rfl
  have hlen : l.length = k.length := by simpa using congrArg List.length he
  have h1 := hv.len
  have h2 := hw.len
  rw [← hlen] at h2
  have hne : ((l.length : Int) != (l.length : Int)) = false := by simp
  have hne2 : (l.length != l.length) = false := by simp
  simp -implicitDefEqProofs only [go_sem, Wk_block, Wk_drawnC, reduceCtorEq, Nat.reduceEqDiff, Nat.reduceAdd, Nat.reduceLeDiff, Nat.reduceLT, Nat.reduceMul, Nat.reduceSub, ↓reduceIte, Int.reduceLT, Int.reduceLE, Int.reduceNeg, Int.reduceAdd, Int.reduceEq, Nat.reduceBneDiff, Nat.reduceBEq, Int.reduceToNat, Int.reduceMul, Int.reduceSub, Int.reduceBEq, Int.reduceBNe, fd9, h1, h2, hne, hne2, bne_self_eq_false, ft, tf]
  refine loop_ind (fun m ts s' => ∃ j : Nat, m = l.length - j ∧ j ≤ l.length ∧ ts.get 13 = some (.int .i64 (j : Int)) ∧ ts.get 12 = some (.int .i64 (l.length : Int)) ∧ ts.get 0 = some v ∧ ts.get 1 = some w ∧ Fr s s' ∧ Dom s') ?_ (n := l.length)
    ⟨0, rfl, by omega, by simp only [Tr.get_set, Nat.reduceEqDiff, ↓reduceIte, Int.cast_ofNat_Int], by simp only [Tr.get_set, Nat.reduceEqDiff, ↓reduceIte, Int.cast_ofNat_Int], by simp only [Tr.get_set, Nat.reduceEqDiff, ↓reduceIte, Int.cast_ofNat_Int], by simp only [Tr.get_set, Nat.reduceEqDiff, ↓reduceIte, Int.cast_ofNat_Int], Fr.refl _, hd⟩
  rintro _ ts s1 ⟨j, rfl, hj, g13, g12, g0, g1, f, dd⟩ IH
  by_cases hlt : j < l.length
  · obtain ⟨b, o, vs, lo, ro, z, hidx, hg, hbl, hle, he1⟩ := (hv.mono f).at_ j hlt
    obtain ⟨b', o', vs', lo', ro', z', hidx', hg', hbl', hle', he1'⟩ := (hw.mono f).at_ j (by omega)
    have hm1 := List.getElem_mem hlt
    have hm2 := List.getElem_mem (show j < k.length by omega)
    have hx := (hl _ hm1).mono (fr_keeps f hd)
    have hy := (hk _ hm2).mono (fr_keeps f hd)
    have hzz := hz _ hm1
    have hcc : l[j].con = (k[j]'(by omega)).con := by
      have := congrArg (fun L => L[j]?) he
      simpa [List.getElem?_map, List.getElem?_eq_getElem hlt, List.getElem?_eq_getElem (show j < k.length by omega)] using this
    generalize l[j] = x at he1 hx hzz hcc
    generalize k[j]'(by omega) = y at he1' hy hcc
    have wj := succ_in (j := j) (by omega)
    have hsm := sameOp_con hcc
    simp -implicitDefEqProofs only [go_sem, Wk_block, Wk_drawnC, reduceCtorEq, Nat.reduceEqDiff, Nat.reduceAdd, Nat.reduceLeDiff, Nat.reduceLT, Nat.reduceMul, Nat.reduceSub, ↓reduceIte, Int.reduceLT, Int.reduceLE, Int.reduceNeg, Int.reduceAdd, Int.reduceEq, Nat.reduceBneDiff, Nat.reduceBEq, Int.reduceToNat, Int.reduceMul, Int.reduceSub, Int.reduceBEq, Int.reduceBNe, g13, g12, g0, g1, hlt, hidx, hg, hle, he1, hidx', hg', hle', he1', ft, tf]
    refine Wl_of (refSame_run hx hy dd hzz.1 hzz.2) ?_
    rintro _ s2 ⟨rfl, f2, d2⟩
    simp -implicitDefEqProofs only [go_sem, Wk_block, Wk_drawnC, reduceCtorEq, Nat.reduceEqDiff, Nat.reduceAdd, Nat.reduceLeDiff, Nat.reduceLT, Nat.reduceMul, Nat.reduceSub, ↓reduceIte, Int.reduceLT, Int.reduceLE, Int.reduceNeg, Int.reduceAdd, Int.reduceEq, Nat.reduceBneDiff, Nat.reduceBEq, Int.reduceToNat, Int.reduceMul, Int.reduceSub, Int.reduceBEq, Int.reduceBNe, g13, g12, g0, g1, hsm, wj, ft, tf]
    refine IH (l.length - (j + 1)) _ _ (by omega) ⟨j + 1, rfl, by omega, ?_, ?_, ?_, ?_, f.trans f2, d2⟩
    · simp only [Tr.get_set, Nat.reduceEqDiff, ↓reduceIte, Int.cast_ofNat_Int]
    · simp only [Tr.get_set, Nat.reduceEqDiff, ↓reduceIte, Int.cast_ofNat_Int, g12]
    · simp only [Tr.get_set, Nat.reduceEqDiff, ↓reduceIte, Int.cast_ofNat_Int, g0]
    · simp only [Tr.get_set, Nat.reduceEqDiff, ↓reduceIte, Int.cast_ofNat_Int, g1]
  · have : j = l.length := by omega
    subst this
    have hlf : decide ((l.length : Int) < (l.length : Int)) = false := decide_eq_false (by omega)
    simp -implicitDefEqProofs only [go_sem, Wk_block, Wk_drawnC, reduceCtorEq, Nat.reduceEqDiff, Nat.reduceAdd, Nat.reduceLeDiff, Nat.reduceLT, Nat.reduceMul, Nat.reduceSub, ↓reduceIte, Int.reduceLT, Int.reduceLE, Int.reduceNeg, Int.reduceAdd, Int.reduceEq, Nat.reduceBneDiff, Nat.reduceBEq, Int.reduceToNat, Int.reduceMul, Int.reduceSub, Int.reduceBEq, Int.reduceBNe, g13, g12, hlf, hlt, ft, tf]
    exact ⟨f, dd⟩

theorem bytes_arg {s : St} {v : AV} (h : ArgOk s (.slice (.int .u8)) v) : ∃ L : List Nat, Bs s v L ∧ Tx s v L ∧ SlOk s v L ∧ Sr s v L ∧ L.length ≤ maxLen ∧ (L.length < 100000000 → Cl s v L) := by
  obtain ⟨L, hB, hl⟩ := keep_of h
  exact ⟨L, hB, keep_txt h hB, slOk_arg h hB, keep_src h hB, hl, cl_arg h hB⟩

end Go.Proofs.YteiiblpnegjjlaaGreat.Lw
namespace Go.Proofs.YteiiblpnegjjlaaGreat.Lw
open D
set_option linter.unusedSimpArgs false
set_option linter.unusedVariables false
set_option maxRecDepth 10000

theorem conOk_of {s : St} {x : Sop} (h : SopOk s x) : ConOk x.con := ⟨h.blen, h.elt, h.qlt, h.mlt⟩
theorem okB_enc {c : Cfg} {l : List Con} (hc : CfgOk c) (hl : ∀ x ∈ l, ConOk x) (hp : plainA c l = true) : okB (encA c l) = true ∧ parse (encA c l) = (c, l) := by
  have h := parse_enc hc hl hp
  refine ⟨?_, h⟩
  unfold okB
  rw [h]
  simp [hp]
def cfg0 : Cfg := ⟨0, 0, 0, 0, 0, 0, 0⟩
theorem zero_cfg : zeroCfg = cfg0.enc := rfl

/-- What comes of the second part of the law: bytes are read, and written again. -/
theorem back_run {s : St} {v : AV} {L : List Nat} (hC : Cl s v L) (hB : Bs s v L) (hL : L.length < 10000000) (hd : Dom s) :
    Wf mm 7 [v] s fun w s' => ∃ (c : Cfg) (u : AV) (k : List Sop) (f : Nat), w = .tup [.agg c.enc, u, .int .i64 (f : Int)] ∧ CfgOk c ∧ RdS s' u k ∧ (∀ x ∈ k, SopOk s' x ∧ x.keys.length ≤ 1000) ∧ k.length ≤ 400 ∧ (f = 0 → plainS c k = true ∧ encA c (k.map Sop.con) = L) ∧ (f = 0 ∨ f = 241) ∧ Fr s s' ∧ Dom s' := by
  refine (Read_run hC hB hL hd).mono ?_
  rintro w s' ⟨h1, h2, f, d⟩
  cases hok : okB L
  · refine ⟨cfg0, .nilSlice, [], 241, by rw [h2 hok, zero_cfg]; rfl, ⟨by decide, by decide⟩, ⟨fun _ => rfl, fun j h => by simp at h, rfl, rfl⟩, by simp, by simp, fun h => absurd h (by decide), .inr rfl, f, d⟩
  · obtain ⟨u, l, rfl, hr, hl, hcl⟩ := h1 hok
    have hok2 := hok
    unfold okB at hok2
    rw [Bool.and_eq_true] at hok2
    refine ⟨(parse L).1, u, l, 0, rfl, (rHead_ok (r := (L, false)) hB.lt).1, hr, fun x hx => ⟨(hl x hx).1, ?_⟩, ?_, fun _ => ⟨?_, ?_⟩, .inl rfl, f, d⟩
    · have h1 : x.keys.length < 256 := (hl x hx).2.ksl
      omega
    · have := congrArg List.length hcl
      rw [List.length_map] at this
      have h2 : (parse L).2 = rOps (min (rMany L).2 400) (rMany L).1 := rfl
      rw [h2] at this
      have := rOps_con (min (rMany L).2 400) (rMany L).1
      omega
    · rw [plain_cons, hcl]; exact hok2.1
    · rw [hcl]; simpa using hok2.2

theorem scriptBack_run : ∀ (s : St) (a : List AV), Dom s → ArgsOk s [tyCfg, .slice tyOp, .slice (.int .u8)] a → Wf mm 4 a s fun v _ => v = .bool true := by
  rintro s a hd h
  obtain ⟨vc, v, vb, rfl, h0, h1, h2⟩ := argsOk3 h
  obtain ⟨c, rfl, hc⟩ := cfg_of h0
  obtain ⟨l, b, o, hAc, hl⟩ := ops_of h1
  obtain ⟨L, hB, hT, hS, hSr, hml, hCl⟩ := bytes_arg h2
  have hA := Acc.rds hAc
  refine Wf_enter ft4 (sm (by decide)) (by rfl) ?_
  have ft : (false == true) = false := rfl
  have tf : (true == false) = false := rfl
  have hlen := hA.len
  have hlb := hB.len
  have d1 := dom_new hd (.cells c.enc false false 0)
  have f1 : Fr s (s.new (.cells c.enc false false 0)) := (Fr.refl s).new _
  have gc : (s.new (.cells c.enc false false 0)).get s.next = some (.cells c.enc false false 0) := by rw [St.get_new, if_pos rfl]
  simp -implicitDefEqProofs only [go_sem, Wk_block, Wk_drawnC, reduceCtorEq, Nat.reduceEqDiff, Nat.reduceAdd, Nat.reduceLeDiff, Nat.reduceLT, Nat.reduceMul, Nat.reduceSub, ↓reduceIte, Int.reduceLT, Int.reduceLE, Int.reduceNeg, Int.reduceAdd, Int.reduceEq, Nat.reduceBneDiff, Nat.reduceBEq, Int.reduceToNat, Int.reduceMul, Int.reduceSub, Int.reduceBEq, Int.reduceBNe, fd4, Wl_eq (alive_eq _), ft, tf]
  generalize s.new (.cells c.enc false false 0) = s1 at d1 f1 gc ⊢
  refine Wl_of (great_run l (hA.mono f1) (fun y hy => (hl y hy).mono (fr_keeps f1 hd)) d1) ?_
  rintro _ s2 ⟨rfl, f2, d2⟩
  have gc2 := (fr_keeps f2 d1) _ _ gc
  cases c1 : great l
  rotate_left
  · simp -implicitDefEqProofs only [go_sem, Wk_block, Wk_drawnC, reduceCtorEq, Nat.reduceEqDiff, Nat.reduceAdd, Nat.reduceLeDiff, Nat.reduceLT, Nat.reduceMul, Nat.reduceSub, ↓reduceIte, Int.reduceLT, Int.reduceLE, Int.reduceNeg, Int.reduceAdd, Int.reduceEq, Nat.reduceBneDiff, Nat.reduceBEq, Int.reduceToNat, Int.reduceMul, Int.reduceSub, Int.reduceBEq, Int.reduceBNe, c1, ft, tf]
  obtain ⟨h420, hsz⟩ := great_facts c1
  have hk1 : ∀ x ∈ l, x.keys.length ≤ 1000 := fun x hx => by have := (hsz x hx).1; omega
  have hce2 : 7 ≤ c.enc.length := Nat.le_refl 7
  have hct : List.take 7 c.enc = c.enc := rfl
  cases c3 : decide (12000 < L.length)
  rotate_left
  · have c4 : decide ((L.length : Int) > 12000) = true := by simp at c3 ⊢; omega
    simp -implicitDefEqProofs only [go_sem, Wk_block, Wk_drawnC, reduceCtorEq, Nat.reduceEqDiff, Nat.reduceAdd, Nat.reduceLeDiff, Nat.reduceLT, Nat.reduceMul, Nat.reduceSub, ↓reduceIte, Int.reduceLT, Int.reduceLE, Int.reduceNeg, Int.reduceAdd, Int.reduceEq, Nat.reduceBneDiff, Nat.reduceBEq, Int.reduceToNat, Int.reduceMul, Int.reduceSub, Int.reduceBEq, Int.reduceBNe, c1, hlb, c3, c4, ft, tf]
  have c4 : decide ((L.length : Int) > 12000) = false := by simp at c3 ⊢; omega
  have hL : L.length ≤ 12000 := by simpa using c3
  simp -implicitDefEqProofs only [go_sem, Wk_block, Wk_drawnC, reduceCtorEq, Nat.reduceEqDiff, Nat.reduceAdd, Nat.reduceLeDiff, Nat.reduceLT, Nat.reduceMul, Nat.reduceSub, ↓reduceIte, Int.reduceLT, Int.reduceLE, Int.reduceNeg, Int.reduceAdd, Int.reduceEq, Nat.reduceBneDiff, Nat.reduceBEq, Int.reduceToNat, Int.reduceMul, Int.reduceSub, Int.reduceBEq, Int.reduceBNe, c1, hlb, c3, c4, gc2, hce2, hct, ft, tf]
  have f02 := f1.trans f2
  refine Wl_of (Bytes_run c l (hA.mono f02) (fun y hy => (hl y hy).mono (fr_keeps f02 hd)) hk1 d2 (by omega) hc) ?_
  rintro w1 s3 ⟨ha1, ha2, fa, da⟩
  have gc3 := (fr_keeps fa d2) _ _ gc2
  have f03 := f02.trans fa
  cases hp : plainS c l
  · rw [ha2 hp]
    have hne : ((241 : Int) == 0) = false := rfl
    simp -implicitDefEqProofs only [go_sem, Wk_block, Wk_drawnC, reduceCtorEq, Nat.reduceEqDiff, Nat.reduceAdd, Nat.reduceLeDiff, Nat.reduceLT, Nat.reduceMul, Nat.reduceSub, ↓reduceIte, Int.reduceLT, Int.reduceLE, Int.reduceNeg, Int.reduceAdd, Int.reduceEq, Nat.reduceBneDiff, Nat.reduceBEq, Int.reduceToNat, Int.reduceMul, Int.reduceSub, Int.reduceBEq, Int.reduceBNe, hne, ft, tf]
    refine Wl_of (back_run (fun s' hs' => hCl (by omega) s' fun b o hb => hs' b o (fr_keeps f03 hd b o hb)) (hB.mono (fr_keeps f03 hd)) (by omega) da) ?_
    rintro w3 s5 ⟨c2, u3, k2, f, rfl, hc2, hr, hk, hkl, hf0, hf1, fc, dc⟩
    have yzl : c2.enc.length = 7 := rfl
    have yzl2 : 7 ≤ c2.enc.length := Nat.le_refl 7
    have yzl3 : c2.enc.length ≤ 7 := Nat.le_refl 7
    have yzc : allCell c2.enc = true := rfl
    have yzt : List.take 7 c2.enc = c2.enc := rfl
    have f05 := f03.trans fc
    simp -implicitDefEqProofs only [go_sem, Wk_block, Wk_drawnC, reduceCtorEq, Nat.reduceEqDiff, Nat.reduceAdd, Nat.reduceLeDiff, Nat.reduceLT, Nat.reduceMul, Nat.reduceSub, ↓reduceIte, Int.reduceLT, Int.reduceLE, Int.reduceNeg, Int.reduceAdd, Int.reduceEq, Nat.reduceBneDiff, Nat.reduceBEq, Int.reduceToNat, Int.reduceMul, Int.reduceSub, Int.reduceBEq, Int.reduceBNe, yzl, yzl2, yzl3, yzc, yzt, List.append_nil, List.drop_succ_cons, List.drop_zero, ft, tf]
    refine Wl_of (Bytes_run c2 k2 (hr.mono ((Fr.refl s5).new _)) (fun y hy => (hk y hy).1.mono (keeps_new dc _)) (fun y hy => (hk y hy).2) (dom_new dc _) (by omega) hc2) ?_
    rintro w4 s6 ⟨hd1, hd0, fe, de⟩
    have f06 := (f05.new _).trans fe
    have ht2 := hT s6 (fr_keeps f06 hd) 0 (Tr.lf.set 0 vb) (by simp only [Tr.get_set, Nat.reduceEqDiff, ↓reduceIte, Int.cast_ofNat_Int])
    simp -implicitDefEqProofs only [go_sem, Wk_block, Wk_drawnC, reduceCtorEq, Nat.reduceEqDiff, Nat.reduceAdd, Nat.reduceLeDiff, Nat.reduceLT, Nat.reduceMul, Nat.reduceSub, ↓reduceIte, Int.reduceLT, Int.reduceLE, Int.reduceNeg, Int.reduceAdd, Int.reduceEq, Nat.reduceBneDiff, Nat.reduceBEq, Int.reduceToNat, Int.reduceMul, Int.reduceSub, Int.reduceBEq, Int.reduceBNe, Nat.lt_add_one] at ht2
    have hsb : strBin BinOp.eql (txt L) (txt L) = some (.bool true) := by
      show some (AV.bool ((txt L).toList == (txt L).toList)) = _
      simp
    rcases hf1 with rfl | rfl
    · obtain ⟨hp2, hE2⟩ := hf0 rfl
      obtain ⟨u4, rfl, ho4⟩ := hd1 hp2
      rw [hE2] at ho4
      have ht1 := ho4.tx s6 (fun _ _ h => h) 0 (Tr.lf.set 0 u4) (by simp only [Tr.get_set, Nat.reduceEqDiff, ↓reduceIte, Int.cast_ofNat_Int])
      simp -implicitDefEqProofs only [go_sem, Wk_block, Wk_drawnC, reduceCtorEq, Nat.reduceEqDiff, Nat.reduceAdd, Nat.reduceLeDiff, Nat.reduceLT, Nat.reduceMul, Nat.reduceSub, ↓reduceIte, Int.reduceLT, Int.reduceLE, Int.reduceNeg, Int.reduceAdd, Int.reduceEq, Nat.reduceBneDiff, Nat.reduceBEq, Int.reduceToNat, Int.reduceMul, Int.reduceSub, Int.reduceBEq, Int.reduceBNe, Nat.lt_add_one] at ht1
      have hn0 : ((0 : Int) != 0) = false := rfl
      have hn1 : ((0 : Int) == 0) = true := rfl
      simp -implicitDefEqProofs only [go_sem, Wk_block, Wk_drawnC, reduceCtorEq, Nat.reduceEqDiff, Nat.reduceAdd, Nat.reduceLeDiff, Nat.reduceLT, Nat.reduceMul, Nat.reduceSub, ↓reduceIte, Int.reduceLT, Int.reduceLE, Int.reduceNeg, Int.reduceAdd, Int.reduceEq, Nat.reduceBneDiff, Nat.reduceBEq, Int.reduceToNat, Int.reduceMul, Int.reduceSub, Int.reduceBEq, Int.reduceBNe, ht1, ht2, hsb, hn0, hn1, ft, tf]
    · have hn0 : ((241 : Int) != 0) = true := rfl
      cases hp2 : plainS c2 k2
      · rw [hd0 hp2]
        simp -implicitDefEqProofs only [go_sem, Wk_block, Wk_drawnC, reduceCtorEq, Nat.reduceEqDiff, Nat.reduceAdd, Nat.reduceLeDiff, Nat.reduceLT, Nat.reduceMul, Nat.reduceSub, ↓reduceIte, Int.reduceLT, Int.reduceLE, Int.reduceNeg, Int.reduceAdd, Int.reduceEq, Nat.reduceBneDiff, Nat.reduceBEq, Int.reduceToNat, Int.reduceMul, Int.reduceSub, Int.reduceBEq, Int.reduceBNe, hn0, ft, tf]
      · obtain ⟨u4, rfl, ho4⟩ := hd1 hp2
        simp -implicitDefEqProofs only [go_sem, Wk_block, Wk_drawnC, reduceCtorEq, Nat.reduceEqDiff, Nat.reduceAdd, Nat.reduceLeDiff, Nat.reduceLT, Nat.reduceMul, Nat.reduceSub, ↓reduceIte, Int.reduceLT, Int.reduceLE, Int.reduceNeg, Int.reduceAdd, Int.reduceEq, Nat.reduceBneDiff, Nat.reduceBEq, Int.reduceToNat, Int.reduceMul, Int.reduceSub, Int.reduceBEq, Int.reduceBNe, hn0, ft, tf]
  · obtain ⟨u1, rfl, ho1⟩ := ha1 hp
    have hpl : plainA c (l.map Sop.con) = true := by rw [← plain_cons]; exact hp
    have hcok : ∀ x ∈ l.map Sop.con, ConOk x := fun x hx => by
      obtain ⟨y, hy, rfl⟩ := List.mem_map.1 hx
      exact conOk_of (hl y hy)
    obtain ⟨hok, hpar⟩ := okB_enc hc hcok hpl
    have hE : ∀ b ∈ encA c (l.map Sop.con), b < 256 := encA_lt (by
      intro x hx
      obtain ⟨y, hy, rfl⟩ := List.mem_map.1 hx
      exact ⟨(hl y hy).blt, (hl y hy).keep.lt⟩)
    have hEl := encA_len (c := c) (l := l.map Sop.con) (fun x hx => (hcok x hx).blen) hpl
    simp -implicitDefEqProofs only [go_sem, Wk_block, Wk_drawnC, reduceCtorEq, Nat.reduceEqDiff, Nat.reduceAdd, Nat.reduceLeDiff, Nat.reduceLT, Nat.reduceMul, Nat.reduceSub, ↓reduceIte, Int.reduceLT, Int.reduceLE, Int.reduceNeg, Int.reduceAdd, Int.reduceEq, Nat.reduceBneDiff, Nat.reduceBEq, Int.reduceToNat, Int.reduceMul, Int.reduceSub, Int.reduceBEq, Int.reduceBNe, ft, tf]
    refine Wl_of (Read_run (ho1.cl (by omega)) (ho1.bs hE) (by omega) da) ?_
    rintro w2 s4 ⟨hb1, -, fb, db⟩
    obtain ⟨u2, k, rfl, hv2, hk2, hck⟩ := hb1 hok
    rw [hpar] at hck ⊢
    have gc4 := (fr_keeps fb da) _ _ gc3
    have hzl : c.enc.length = 7 := rfl
    have hzl3 : c.enc.length ≤ 7 := Nat.le_refl 7
    have hzc : allCell c.enc = true := rfl
    have hze : cellsEq [1, 1, 1, 1, 1, 1, 1] c.enc c.enc = some true := by simp [Cfg.enc, cellsEq, leafEq]
    have hn4 : ¬ s.next = s4.next := by have := db _ _ gc4; omega
    have f04 := f03.trans fb
    simp -implicitDefEqProofs only [go_sem, Wk_block, Wk_drawnC, reduceCtorEq, Nat.reduceEqDiff, Nat.reduceAdd, Nat.reduceLeDiff, Nat.reduceLT, Nat.reduceMul, Nat.reduceSub, ↓reduceIte, Int.reduceLT, Int.reduceLE, Int.reduceNeg, Int.reduceAdd, Int.reduceEq, Nat.reduceBneDiff, Nat.reduceBEq, Int.reduceToNat, Int.reduceMul, Int.reduceSub, Int.reduceBEq, Int.reduceBNe, gc4, hzl, hzl3, hzc, hce2, hct, hze, hn4, List.append_nil, List.drop_succ_cons, List.drop_zero, Bool.not_true, ft, tf]
    have fl4 : Fr s4 (s4.new (.cells c.enc false false 0)) := (Fr.refl s4).new _
    refine Wl_of (SameOps_run (l := l) (k := k) (hA.mono (f04.trans fl4)) (hv2.mono fl4) (fun x hx => (hl x hx).mono (fr_keeps (f04.trans fl4) hd)) (fun x hx => (hk2 x hx).1.mono (keeps_new db _)) (fun x hx => by
      have := hsz x hx
      omega) (dom_new db _) (by omega) hck.symm) ?_
    rintro _ s7 ⟨rfl, fg, dg⟩
    have f07 := (f04.trans fl4).trans fg
    simp -implicitDefEqProofs only [go_sem, Wk_block, Wk_drawnC, reduceCtorEq, Nat.reduceEqDiff, Nat.reduceAdd, Nat.reduceLeDiff, Nat.reduceLT, Nat.reduceMul, Nat.reduceSub, ↓reduceIte, Int.reduceLT, Int.reduceLE, Int.reduceNeg, Int.reduceAdd, Int.reduceEq, Nat.reduceBneDiff, Nat.reduceBEq, Int.reduceToNat, Int.reduceMul, Int.reduceSub, Int.reduceBEq, Int.reduceBNe, ft, tf]
    refine Wl_of (back_run (fun s' hs' => hCl (by omega) s' fun b o hb => hs' b o (fr_keeps f07 hd b o hb)) (hB.mono (fr_keeps f07 hd)) (by omega) dg) ?_
    rintro w3 s5 ⟨c2, u3, k2, f, rfl, hc2, hr, hk, hkl, hf0, hf1, fc, dc⟩
    have yzl : c2.enc.length = 7 := rfl
    have yzl2 : 7 ≤ c2.enc.length := Nat.le_refl 7
    have yzl3 : c2.enc.length ≤ 7 := Nat.le_refl 7
    have yzc : allCell c2.enc = true := rfl
    have yzt : List.take 7 c2.enc = c2.enc := rfl
    have f05 := f07.trans fc
    simp -implicitDefEqProofs only [go_sem, Wk_block, Wk_drawnC, reduceCtorEq, Nat.reduceEqDiff, Nat.reduceAdd, Nat.reduceLeDiff, Nat.reduceLT, Nat.reduceMul, Nat.reduceSub, ↓reduceIte, Int.reduceLT, Int.reduceLE, Int.reduceNeg, Int.reduceAdd, Int.reduceEq, Nat.reduceBneDiff, Nat.reduceBEq, Int.reduceToNat, Int.reduceMul, Int.reduceSub, Int.reduceBEq, Int.reduceBNe, yzl, yzl2, yzl3, yzc, yzt, List.append_nil, List.drop_succ_cons, List.drop_zero, ft, tf]
    refine Wl_of (Bytes_run c2 k2 (hr.mono ((Fr.refl s5).new _)) (fun y hy => (hk y hy).1.mono (keeps_new dc _)) (fun y hy => (hk y hy).2) (dom_new dc _) (by omega) hc2) ?_
    rintro w4 s6 ⟨hd1, hd0, fe, de⟩
    have f06 := (f05.new _).trans fe
    have ht2 := hT s6 (fr_keeps f06 hd) 0 (Tr.lf.set 0 vb) (by simp only [Tr.get_set, Nat.reduceEqDiff, ↓reduceIte, Int.cast_ofNat_Int])
    simp -implicitDefEqProofs only [go_sem, Wk_block, Wk_drawnC, reduceCtorEq, Nat.reduceEqDiff, Nat.reduceAdd, Nat.reduceLeDiff, Nat.reduceLT, Nat.reduceMul, Nat.reduceSub, ↓reduceIte, Int.reduceLT, Int.reduceLE, Int.reduceNeg, Int.reduceAdd, Int.reduceEq, Nat.reduceBneDiff, Nat.reduceBEq, Int.reduceToNat, Int.reduceMul, Int.reduceSub, Int.reduceBEq, Int.reduceBNe, Nat.lt_add_one] at ht2
    have hsb : strBin BinOp.eql (txt L) (txt L) = some (.bool true) := by
      show some (AV.bool ((txt L).toList == (txt L).toList)) = _
      simp
    rcases hf1 with rfl | rfl
    · obtain ⟨hp2, hE2⟩ := hf0 rfl
      obtain ⟨u4, rfl, ho4⟩ := hd1 hp2
      rw [hE2] at ho4
      have ht1 := ho4.tx s6 (fun _ _ h => h) 0 (Tr.lf.set 0 u4) (by simp only [Tr.get_set, Nat.reduceEqDiff, ↓reduceIte, Int.cast_ofNat_Int])
      simp -implicitDefEqProofs only [go_sem, Wk_block, Wk_drawnC, reduceCtorEq, Nat.reduceEqDiff, Nat.reduceAdd, Nat.reduceLeDiff, Nat.reduceLT, Nat.reduceMul, Nat.reduceSub, ↓reduceIte, Int.reduceLT, Int.reduceLE, Int.reduceNeg, Int.reduceAdd, Int.reduceEq, Nat.reduceBneDiff, Nat.reduceBEq, Int.reduceToNat, Int.reduceMul, Int.reduceSub, Int.reduceBEq, Int.reduceBNe, Nat.lt_add_one] at ht1
      have hn0 : ((0 : Int) != 0) = false := rfl
      have hn1 : ((0 : Int) == 0) = true := rfl
      simp -implicitDefEqProofs only [go_sem, Wk_block, Wk_drawnC, reduceCtorEq, Nat.reduceEqDiff, Nat.reduceAdd, Nat.reduceLeDiff, Nat.reduceLT, Nat.reduceMul, Nat.reduceSub, ↓reduceIte, Int.reduceLT, Int.reduceLE, Int.reduceNeg, Int.reduceAdd, Int.reduceEq, Nat.reduceBneDiff, Nat.reduceBEq, Int.reduceToNat, Int.reduceMul, Int.reduceSub, Int.reduceBEq, Int.reduceBNe, ht1, ht2, hsb, hn0, hn1, ft, tf]
    · have hn0 : ((241 : Int) != 0) = true := rfl
      cases hp2 : plainS c2 k2
      · rw [hd0 hp2]
        simp -implicitDefEqProofs only [go_sem, Wk_block, Wk_drawnC, reduceCtorEq, Nat.reduceEqDiff, Nat.reduceAdd, Nat.reduceLeDiff, Nat.reduceLT, Nat.reduceMul, Nat.reduceSub, ↓reduceIte, Int.reduceLT, Int.reduceLE, Int.reduceNeg, Int.reduceAdd, Int.reduceEq, Nat.reduceBneDiff, Nat.reduceBEq, Int.reduceToNat, Int.reduceMul, Int.reduceSub, Int.reduceBEq, Int.reduceBNe, hn0, ft, tf]
      · obtain ⟨u4, rfl, ho4⟩ := hd1 hp2
        simp -implicitDefEqProofs only [go_sem, Wk_block, Wk_drawnC, reduceCtorEq, Nat.reduceEqDiff, Nat.reduceAdd, Nat.reduceLeDiff, Nat.reduceLT, Nat.reduceMul, Nat.reduceSub, ↓reduceIte, Int.reduceLT, Int.reduceLE, Int.reduceNeg, Int.reduceAdd, Int.reduceEq, Nat.reduceBneDiff, Nat.reduceBEq, Int.reduceToNat, Int.reduceMul, Int.reduceSub, Int.reduceBEq, Int.reduceBNe, hn0, ft, tf]
end Go.Proofs.YteiiblpnegjjlaaGreat.Lw
