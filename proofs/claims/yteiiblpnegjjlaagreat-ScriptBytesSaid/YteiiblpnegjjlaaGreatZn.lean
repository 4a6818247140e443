/- Scripts. A script's bytes: the document's answer, whole.
The law of scripts' bytes. -/
import Derived.Test.YteiiblpnegjjlaaGreatZm
namespace Go.Proofs.YteiiblpnegjjlaaGreat.Lw
open D
set_option linter.unusedSimpArgs false
set_option linter.unusedVariables false
set_option maxRecDepth 10000

/-- Bytes are being put behind each other, in a value. -/
structure Stq (s0 : St) (u : AV) (P : List Nat) (t : St) : Prop where
  out : OutB t s0.next u (P.map u8)
  fr : Fr s0 t
  dom : Dom t
theorem Stq.new {s0 : St} {u : AV} {P : List Nat} {t : St} (h : Stq s0 u P t) (o : AObj) : Stq s0 u P (t.new o) := ⟨h.out.new _, h.fr.new _, dom_new h.dom _⟩
theorem Stq.call {s0 : St} {u : AV} {P : List Nat} {t t' : St} (h : Stq s0 u P t) (f : Fr t t') (hd : Dom t') : Stq s0 u P t' := ⟨h.out.frx' f, h.fr.trans f, hd⟩
theorem Stq.app {s0 : St} {u : AV} {P : List Nat} {t : St} (h : Stq s0 u P t) (M : List Nat) (hL : P.length + M.length < 1000000000) :
    ∃ u' t', appendA 1 1 t u M.length (M.map u8) = some (u', t') ∧ (u'.cell = true ∧ u'.cells = [u']) ∧ Stq s0 u' (P ++ M) t' ∧ t.next ≤ t'.next ∧ ∀ b vs ro z, t.get b = some (.cells vs false ro z) → t'.get b = some (.cells vs false ro z) := by
  obtain ⟨u', t', ha, ho, hn, hg, st, hk⟩ := h.out.app h.fr.le M (by rw [List.length_map]; exact hL)
  refine ⟨u', t', ha, ho.cell, ⟨by rw [List.map_append]; exact ho, ⟨Nat.le_trans h.fr.le hn, fun b hb => (hg b hb).trans (h.fr.get b hb)⟩, st.dom h.dom⟩, hn, hk h.dom⟩
theorem Stq.set {s0 : St} {u v : AV} {P P' : List Nat} {t t' : St} (h : Stq s0 u P t) (f : Fr t t') (hd : Dom t') (ho : OutB t' t.next v (P'.map u8)) : Stq s0 v P' t' := ⟨ho.le h.fr.le, h.fr.trans f, hd⟩
theorem u8_of {a : Int} (h : 0 ≤ a) : IntKind.u8.wrap a = ((a.toNat % 256 : Nat) : Int) := by
  obtain ⟨n, rfl⟩ : ∃ n : Nat, a = (n : Int) := ⟨a.toNat, by omega⟩
  simp [IntKind.wrap, IntKind.signed, IntKind.bits]
theorem head_fields (c : Cfg) (n : Nat) : fieldsN [(2, c.pages.toNat), (4, c.every), (4, c.span), (2, c.last.toNat), (2, c.spans.toNat), (2, c.chunk.toNat), (2, c.retry.toNat), (2, n)] = encHead c n := by
  simp [fieldsN, encHead, lebs]

theorem refBytes_run (c : Cfg) (l : List Sop) {v : AV} {s : St} (hA : RdS s v l) (hl : ∀ x ∈ l, SopOk s x) (hk : ∀ x ∈ l, x.keys.length ≤ 1000) (hd : Dom s) (hL : l.length < 1000000000) (hc : CfgOk c) :
    Wf mm 14 [.agg c.enc, v] s fun w s' => (plainS c l = true → ∃ u, w = .tup [u, .int .i64 0] ∧ OutB s' s.next u ((encA c (l.map Sop.con)).map u8)) ∧ (plainS c l = false → w = .tup [.nilSlice, .int .i64 241]) ∧ Fr s s' ∧ Dom s' := by
  refine Wf_enter ft14 (sm (by decide)) (by rfl) ?_
  have ft : (false == true) = false := rfl
  have tf : (true == false) = false := rfl
  have hn := keeps_new hd (.cells c.enc false false 0)
  have hd2 := dom_new hd (.cells c.enc false false 0)
  have f1 : Fr s (s.new (.cells c.enc false false 0)) := by (repeat (first | exact FrX.refl _ _ | exact Fr.refl _ | assumption | exact Fr.x (by assumption) _ | refine FrX.put ?_ (.inl rfl) _ | refine FrX.put ?_ (.inr (by first | omega | (simp; done) | (simp; omega))) _ | refine FrX.new ?_ _ | refine Fr.put ?_ (by first | omega | (simp; done) | (simp; omega)) _ | refine Fr.new ?_ _ | refine FrX.then ?_ (by assumption) | refine Fr.trans ?_ (by assumption)))
  have g1 : (s.new (.cells c.enc false false 0)).get s.next = some (.cells c.enc false false 0) := by rw [St.get_new, if_pos rfl]
  have n1 : (s.new (.cells c.enc false false 0)).next = s.next + 1 := rfl
  have hce : 7 ≤ c.enc.length := Nat.le_refl 7
  have hct : List.take 7 c.enc = c.enc := rfl
  have hlen := hA.len
  simp -implicitDefEqProofs only [go_sem, Wk_block, Wk_drawnC, reduceCtorEq, Nat.reduceEqDiff, Nat.reduceAdd, Nat.reduceLeDiff, Nat.reduceLT, Nat.reduceMul, Nat.reduceSub, ↓reduceIte, Int.reduceLT, Int.reduceLE, Int.reduceNeg, Int.reduceAdd, Int.reduceEq, Nat.reduceBneDiff, Nat.reduceBEq, Int.reduceToNat, Int.reduceMul, Int.reduceSub, Int.reduceBEq, Int.reduceBNe, Int.cast_ofNat_Int, Int.toNat_natCast_add_one, Nat.add_left_cancel_iff, Nat.left_eq_add, Nat.add_eq_left, Int.toNat_natCast, Nat.add_assoc, Int.ofNat_lt, Int.ofNat_le, Nat.lt_add_one_of_lt, Nat.lt_add_one, Nat.lt_add_right, Nat.lt_add_right_iff_pos, Nat.add_lt_add_iff_left, fd14, hce, hct, ft, tf]
  obtain ⟨a0, ha0⟩ : ∃ a0, s.next = a0 := ⟨_, rfl⟩
  rw [ha0] at g1 n1 ⊢
  generalize s.new (.cells c.enc false false 0) = s1 at *
  refine Wl_of (refPlain_run c l (hA.mono f1) (fun x hx => (hl x hx).mono hn) hk hd2 hL) ?_
  rintro _ s2 ⟨rfl, f2, d2⟩
  have g2 := (fr_keeps f2 hd2) _ _ g1
  have f02 := f1.trans f2
  cases hp : plainS c l
  · simp -implicitDefEqProofs only [go_sem, Wk_block, Wk_drawnC, reduceCtorEq, Nat.reduceEqDiff, Nat.reduceAdd, Nat.reduceLeDiff, Nat.reduceLT, Nat.reduceMul, Nat.reduceSub, ↓reduceIte, Int.reduceLT, Int.reduceLE, Int.reduceNeg, Int.reduceAdd, Int.reduceEq, Nat.reduceBneDiff, Nat.reduceBEq, Int.reduceToNat, Int.reduceMul, Int.reduceSub, Int.reduceBEq, Int.reduceBNe, Int.cast_ofNat_Int, Int.toNat_natCast_add_one, Nat.add_left_cancel_iff, Nat.left_eq_add, Nat.add_eq_left, Int.toNat_natCast, Nat.add_assoc, Int.ofNat_lt, Int.ofNat_le, Nat.lt_add_one_of_lt, Nat.lt_add_one, Nat.lt_add_right, Nat.lt_add_right_iff_pos, Nat.add_lt_add_iff_left, ft, tf]
    exact ⟨f02, d2⟩
  have hp' := hp
  rw [plain_cons] at hp'
  unfold plainA at hp'
  rw [Bool.and_eq_true, Bool.not_eq_true', Bool.not_eq_true', Bool.or_eq_false_iff, List.length_map] at hp'
  obtain ⟨⟨h400, hops⟩, hnums⟩ := hp'
  have h400 : l.length ≤ 400 := by simpa using h400
  have hops : ∀ x ∈ l, plainC x.con = true := fun x hx => by
    have := List.any_eq_false.1 hops x.con (List.mem_map_of_mem hx)
    simpa using this
  have hn' : ∀ n ∈ c.nums, 0 ≤ n ∧ n ≤ 65535 := fun n hn => bad_of (by
    have := List.any_eq_false.1 hnums n hn
    simpa using this)
  have m1 := hn' c.pages (by simp [Cfg.nums])
  have m2 := hn' c.last (by simp [Cfg.nums])
  have m3 := hn' c.spans (by simp [Cfg.nums])
  have m4 := hn' c.chunk (by simp [Cfg.nums])
  have m5 := hn' c.retry (by simp [Cfg.nums])
  have hu : ∀ a : Int, 0 ≤ a → a ≤ 65535 → IntKind.u64.wrap a = ((a.toNat : Nat) : Int) := fun a h1 h2 => by rw [u64_in (by omega) (by omega)]; omega
  have w1 := hu _ m1.1 m1.2
  have w2 := hu _ m2.1 m2.2
  have w3 := hu _ m3.1 m3.2
  have w4 := hu _ m4.1 m4.2
  have w5 := hu _ m5.1 m5.2
  have w6 : IntKind.u64.wrap (l.length : Int) = ((l.length : Nat) : Int) := u64_in (by omega) (by omega)
  have we := u64_of (n := c.every) (by have := hc.every; omega)
  have ws := u64_of (n := c.span) (by have := hc.span; omega)
  unfold Cfg.enc at g2
  have hab : a0 < s2.next := d2 _ _ g2
  have hq : ¬ a0 = s2.next := by omega
  simp -implicitDefEqProofs only [go_sem, Wk_block, Wk_drawnC, reduceCtorEq, Nat.reduceEqDiff, Nat.reduceAdd, Nat.reduceLeDiff, Nat.reduceLT, Nat.reduceMul, Nat.reduceSub, ↓reduceIte, Int.reduceLT, Int.reduceLE, Int.reduceNeg, Int.reduceAdd, Int.reduceEq, Nat.reduceBneDiff, Nat.reduceBEq, Int.reduceToNat, Int.reduceMul, Int.reduceSub, Int.reduceBEq, Int.reduceBNe, Int.cast_ofNat_Int, Int.toNat_natCast_add_one, Nat.add_left_cancel_iff, Nat.left_eq_add, Nat.add_eq_left, Int.toNat_natCast, Nat.add_assoc, Int.ofNat_lt, Int.ofNat_le, Nat.lt_add_one_of_lt, Nat.lt_add_one, Nat.lt_add_right, Nat.lt_add_right_iff_pos, Nat.add_lt_add_iff_left, g2, hq, hlen, w1, w2, w3, w4, w5, w6, we, ws, ft, tf]
  have hS0 : Stq s (.nilSlice) [] (s2.new (.cells [.int .u32 (c.every : Int), .int .u32 (c.span : Int), .int .i64 c.last, .int .i64 c.spans] false false 0)) := ⟨.inl ⟨rfl, rfl⟩, f02.new _, dom_new d2 _⟩
  refine Wl_of (refF_run [(2, c.pages.toNat), (4, c.every), (4, c.span), (2, c.last.toNat), (2, c.spans.toNat), (2, c.chunk.toNat), (2, c.retry.toNat), (2, l.length)] (by
    have := hc.every
    have := hc.span
    intro x hx
    simp only [List.mem_cons, List.not_mem_nil, or_false] at hx
    rcases hx with rfl | rfl | rfl | rfl | rfl | rfl | rfl | rfl <;> (constructor <;> (dsimp only; omega))) (by simp) (p := s2.next + 1) (k := 8) (L := [.int .u64 2, .int .u64 (c.pages.toNat : Int), .int .u64 4, .int .u64 (c.every : Int), .int .u64 4, .int .u64 (c.span : Int), .int .u64 2, .int .u64 (c.last.toNat : Int), .int .u64 2, .int .u64 (c.spans.toNat : Int), .int .u64 2, .int .u64 (c.chunk.toNat : Int), .int .u64 2, .int .u64 (c.retry.toNat : Int), .int .u64 2, .int .u64 (l.length : Int)])
    (by rw [St.get_new, if_pos (by simp)]) rfl rfl (dom_new hS0.dom _)) ?_
  rintro u0 s3 ⟨ho3, f3, dd3⟩
  rw [head_fields] at ho3
  have hS3 : Stq s u0 (encHead c l.length) s3 := (hS0.new _).set f3 dd3 ho3
  clear ho3 f3 dd3 hS0
  simp -implicitDefEqProofs only [go_sem, Wk_block, Wk_drawnC, reduceCtorEq, Nat.reduceEqDiff, Nat.reduceAdd, Nat.reduceLeDiff, Nat.reduceLT, Nat.reduceMul, Nat.reduceSub, ↓reduceIte, Int.reduceLT, Int.reduceLE, Int.reduceNeg, Int.reduceAdd, Int.reduceEq, Nat.reduceBneDiff, Nat.reduceBEq, Int.reduceToNat, Int.reduceMul, Int.reduceSub, Int.reduceBEq, Int.reduceBNe, Int.cast_ofNat_Int, Int.toNat_natCast_add_one, Nat.add_left_cancel_iff, Nat.left_eq_add, Nat.add_eq_left, Int.toNat_natCast, Nat.add_assoc, Int.ofNat_lt, Int.ofNat_le, Nat.lt_add_one_of_lt, Nat.lt_add_one, Nat.lt_add_right, Nat.lt_add_right_iff_pos, Nat.add_lt_add_iff_left, hlen, ft, tf]
  have hhl : (encHead c l.length).length = 20 := by unfold encHead; simp [lebs_len]
  have hfl : ∀ j, j ≤ l.length → (((l.take j).map Sop.con).flatMap encC).length ≤ 351 * j := fun j hj => by
    have := flat_len ((l.take j).map Sop.con) fun x hx => by
      obtain ⟨y, hy, rfl⟩ := List.mem_map.1 hx
      exact ⟨(hl y (List.mem_of_mem_take hy)).blen, hops y (List.mem_of_mem_take hy)⟩
    rw [List.length_map, List.length_take, Nat.min_eq_left hj] at this
    exact this
  refine loop_ind (fun m ts s' => ∃ (j : Nat) (u : AV), m = l.length - j ∧ j ≤ l.length ∧ ts.get 57 = some (.int .i64 (j : Int)) ∧ ts.get 56 = some (.int .i64 (l.length : Int)) ∧ ts.get 55 = some v ∧ ts.get 7 = some u ∧ Stq s u (encHead c l.length ++ ((l.take j).map Sop.con).flatMap encC) s') ?_ (n := l.length)
    ⟨0, u0, rfl, by omega, by simp only [Tr.get_set, Nat.reduceEqDiff, ↓reduceIte, Int.cast_ofNat_Int], by simp only [Tr.get_set, Nat.reduceEqDiff, ↓reduceIte, Int.cast_ofNat_Int], by simp only [Tr.get_set, Nat.reduceEqDiff, ↓reduceIte, Int.cast_ofNat_Int], by simp only [Tr.get_set, Nat.reduceEqDiff, ↓reduceIte, Int.cast_ofNat_Int], by simpa using hS3⟩
  clear hS3
  rintro m ts t0 ⟨j, u, rfl, hj, g57, g56, g55, g7, hS⟩ IH
  by_cases hlt : j < l.length
  · have hPl := hfl j hj
    have hA1 := hA.mono hS.fr
    obtain ⟨b, o, vs, lo, ro, z, hidx, hv, hbl, hle, he⟩ := hA1.at_ j hlt
    have hmem := List.getElem_mem hlt
    have hokS := hl l[j] hmem
    have hok := hokS.mono (fr_keeps hS.fr hd)
    have hpl := hops l[j] hmem
    have htk : ((l.take (j + 1)).map Sop.con).flatMap encC = ((l.take j).map Sop.con).flatMap encC ++ encC l[j].con := by
      rw [List.take_succ_eq_append_getElem hlt, List.map_append, List.flatMap_append]
      simp only [List.map_cons, List.map_nil, List.flatMap_cons, List.flatMap_nil, List.append_nil]
    generalize l[j] = x at he hok hokS hpl htk
    have wj := succ_in (j := j) (by omega)
    have ht : x.cells.take 25 = x.cells := List.take_of_length_le (by rw [hok.len]; omega)
    obtain ⟨p1, p2, p3, p4, p5, p6, p7⟩ := plain_nums hpl
    have hPl2 : (encHead c l.length ++ ((l.take j).map Sop.con).flatMap encC).length ≤ 20 + 351 * j := by rw [List.length_append, hhl]; omega
    generalize hPe : encHead c l.length ++ ((l.take j).map Sop.con).flatMap encC = P at hS hPl2
    have hkl := hok.keys.len
    simp only [List.length_map] at hkl
    have k1 := u8_of (a := x.kind) p1.1
    have k2 := u8_of (a := x.node) p2.1
    have k3 := u8_of (a := x.key) p3.1
    have k4 : IntKind.u8.wrap (x.keys.length : Int) = ((x.keys.length % 256 : Nat) : Int) := u8_of (a := (x.keys.length : Int)) (by omega)
    obtain ⟨u1, t1, e1, e2, hS1, hn1, kp1⟩ := ((hS.new (.cells x.cells false false 0)).new (.cells [.int .u8 ((x.kind.toNat % 256 : Nat) : Int), .int .u8 ((x.node.toNat % 256 : Nat) : Int), .int .u8 ((x.key.toNat % 256 : Nat) : Int), .int .u8 ((x.keys.length % 256 : Nat) : Int)] false false 0)).app (lebs 1 [x.kind.toNat, x.node.toNat, x.key.toNat, x.keys.length]) (by rw [lebs_len]; simp only [List.length_cons, List.length_nil]; omega)
    have e1' : appendA 1 1 ((t0.new (.cells x.cells false false 0)).new (.cells [.int .u8 ((x.kind.toNat % 256 : Nat) : Int), .int .u8 ((x.node.toNat % 256 : Nat) : Int), .int .u8 ((x.key.toNat % 256 : Nat) : Int), .int .u8 ((x.keys.length % 256 : Nat) : Int)] false false 0)) u 4 [.int .u8 ((x.kind.toNat % 256 : Nat) : Int), .int .u8 ((x.node.toNat % 256 : Nat) : Int), .int .u8 ((x.key.toNat % 256 : Nat) : Int), .int .u8 ((x.keys.length % 256 : Nat) : Int)] = some (u1, t1) := e1
    have ga1 : t1.get t0.next = some (.cells x.cells false false 0) := kp1 _ _ _ _ (by rw [St.get_new, if_neg (by simp only [St.next_new]; omega), St.get_new, if_pos rfl])
    simp -implicitDefEqProofs only [go_sem, Wk_block, Wk_drawnC, reduceCtorEq, Nat.reduceEqDiff, Nat.reduceAdd, Nat.reduceLeDiff, Nat.reduceLT, Nat.reduceMul, Nat.reduceSub, ↓reduceIte, Int.reduceLT, Int.reduceLE, Int.reduceNeg, Int.reduceAdd, Int.reduceEq, Nat.reduceBneDiff, Nat.reduceBEq, Int.reduceToNat, Int.reduceMul, Int.reduceSub, Int.reduceBEq, Int.reduceBNe, Int.cast_ofNat_Int, Int.toNat_natCast_add_one, Nat.add_left_cancel_iff, Nat.left_eq_add, Nat.add_eq_left, Int.toNat_natCast, Nat.add_assoc, Int.ofNat_lt, Int.ofNat_le, Nat.lt_add_one_of_lt, Nat.lt_add_one, Nat.lt_add_right, Nat.lt_add_right_iff_pos, Nat.add_lt_add_iff_left, g57, g56, g55, g7, hlt, hidx, hv, hle, he, hok.len, hok.cell, ht, hok.c0, hok.c1, hok.c2, hok.c3, hkl, k1, k2, k3, k4, srcA, e1', ga1, Nat.mul_one, eq_self, ft, tf]
    obtain ⟨a9, ha9⟩ : ∃ a9, t0.next = a9 := ⟨_, rfl⟩
    rw [ha9] at ga1 ⊢
    have hkl0 : x.keys.length ≤ 64 := p5
    have hks0 : ∀ k ∈ x.keys, 0 ≤ k ∧ k ≤ 255 := p6
    have hsm : ∀ i, (lebs 1 ((x.keys.take i).map Int.toNat)).length ≤ 64 := fun i => by
      rw [lebs_len, List.length_map, List.length_take]; omega
    have l1' : (P ++ lebs 1 [x.kind.toNat, x.node.toNat, x.key.toNat, x.keys.length]).length ≤ 24 + 351 * j := by simp [lebs_len]; omega
    generalize hP1 : P ++ lebs 1 [x.kind.toNat, x.node.toNat, x.key.toNat, x.keys.length] = P1 at hS1 l1'
    refine loop_ind (fun m ts s' => ∃ (i : Nat) (u : AV), m = x.keys.length - i ∧ i ≤ x.keys.length ∧ ts.get 80 = some (.int .i64 (i : Int)) ∧ ts.get 79 = some (.int .i64 (x.keys.length : Int)) ∧ ts.get 78 = some x.kv ∧ ts.get 7 = some u ∧ ts.get 9 = some (.ptr a9 0) ∧
        ts.get 57 = some (.int .i64 (j : Int)) ∧ ts.get 56 = some (.int .i64 (l.length : Int)) ∧ ts.get 55 = some v ∧ Stq s u (P1 ++ lebs 1 ((x.keys.take i).map Int.toNat)) s' ∧ s'.get a9 = some (.cells x.cells false false 0)) ?_ (n := x.keys.length)
      ⟨0, u1, rfl, by omega, by simp only [Tr.get_set, Nat.reduceEqDiff, ↓reduceIte, Int.cast_ofNat_Int], by simp only [Tr.get_set, Nat.reduceEqDiff, ↓reduceIte, Int.cast_ofNat_Int], by simp only [Tr.get_set, Nat.reduceEqDiff, ↓reduceIte, Int.cast_ofNat_Int], by simp only [Tr.get_set, Nat.reduceEqDiff, ↓reduceIte, Int.cast_ofNat_Int], by simp only [Tr.get_set, Nat.reduceEqDiff, ↓reduceIte, Int.cast_ofNat_Int], by simp only [Tr.get_set, Nat.reduceEqDiff, ↓reduceIte, Int.cast_ofNat_Int, g57], by simp only [Tr.get_set, Nat.reduceEqDiff, ↓reduceIte, Int.cast_ofNat_Int, g56], by simp only [Tr.get_set, Nat.reduceEqDiff, ↓reduceIte, Int.cast_ofNat_Int, g55], by simpa [lebs] using hS1, ga1⟩
    clear hS1 ga1 hn1 kp1 e1 e1' g7 g57 g56 g55
    rintro m ts t2 ⟨i, u2, rfl, hi, g80, g79, g78, g7, g9, g57, g56, g55, hS2, ga2⟩ IH2
    by_cases hlt2 : i < x.keys.length
    · obtain ⟨b2, o2, vs2, lo2, ro2, z2, hidx2, hg2, hv2⟩ := (hokS.mono (fr_keeps hS2.fr hd)).keys.at_ i (by rw [List.length_map]; exact hlt2)
      rw [List.getElem_map] at hv2
      have hkm := hks0 x.keys[i] (List.getElem_mem hlt2)
      have htk2 : lebs 1 ((x.keys.take (i + 1)).map Int.toNat) = lebs 1 ((x.keys.take i).map Int.toNat) ++ [x.keys[i].toNat % 256] := by
        rw [List.take_succ_eq_append_getElem hlt2, List.map_append, lebs_append]
        rfl
      generalize x.keys[i] = y at hv2 hkm htk2
      have wi := succ_in (j := i) (by omega)
      have ky := u8_of hkm.1
      obtain ⟨u3, t3, e3, e4, hS3, hn3, kp3⟩ := (hS2.new (.cells [.int .u8 ((y.toNat % 256 : Nat) : Int)] false false 0)).app [y.toNat % 256] (by rw [List.length_append]; have := hsm i; simp only [List.length_cons, List.length_nil]; omega)
      have e3' : appendA 1 1 (t2.new (.cells [.int .u8 ((y.toNat % 256 : Nat) : Int)] false false 0)) u2 1 [.int .u8 ((y.toNat % 256 : Nat) : Int)] = some (u3, t3) := e3
      simp -implicitDefEqProofs only [go_sem, Wk_block, Wk_drawnC, reduceCtorEq, Nat.reduceEqDiff, Nat.reduceAdd, Nat.reduceLeDiff, Nat.reduceLT, Nat.reduceMul, Nat.reduceSub, ↓reduceIte, Int.reduceLT, Int.reduceLE, Int.reduceNeg, Int.reduceAdd, Int.reduceEq, Nat.reduceBneDiff, Nat.reduceBEq, Int.reduceToNat, Int.reduceMul, Int.reduceSub, Int.reduceBEq, Int.reduceBNe, Int.cast_ofNat_Int, Int.toNat_natCast_add_one, Nat.add_left_cancel_iff, Nat.left_eq_add, Nat.add_eq_left, Int.toNat_natCast, Nat.add_assoc, Int.ofNat_lt, Int.ofNat_le, Nat.lt_add_one_of_lt, Nat.lt_add_one, Nat.lt_add_right, Nat.lt_add_right_iff_pos, Nat.add_lt_add_iff_left, g80, g79, g78, g7, hlt2, hidx2, hg2, hv2, ky, srcA, e3', wi, Nat.mul_one, eq_self, ft, tf]
      refine IH2 (x.keys.length - (i + 1)) _ _ (by omega) ⟨i + 1, u3, rfl, by omega, ?_, ?_, ?_, ?_, ?_, ?_, ?_, ?_, ?_, ?_⟩
      · simp only [Tr.get_set, Nat.reduceEqDiff, ↓reduceIte, Int.cast_ofNat_Int]
      · simp only [Tr.get_set, Nat.reduceEqDiff, ↓reduceIte, Int.cast_ofNat_Int, g79]
      · simp only [Tr.get_set, Nat.reduceEqDiff, ↓reduceIte, Int.cast_ofNat_Int, g78]
      · simp only [Tr.get_set, Nat.reduceEqDiff, ↓reduceIte, Int.cast_ofNat_Int]
      · simp only [Tr.get_set, Nat.reduceEqDiff, ↓reduceIte, Int.cast_ofNat_Int, g9]
      · simp only [Tr.get_set, Nat.reduceEqDiff, ↓reduceIte, Int.cast_ofNat_Int, g57]
      · simp only [Tr.get_set, Nat.reduceEqDiff, ↓reduceIte, Int.cast_ofNat_Int, g56]
      · simp only [Tr.get_set, Nat.reduceEqDiff, ↓reduceIte, Int.cast_ofNat_Int, g55]
      · rw [htk2, ← List.append_assoc]; exact hS3
      · exact kp3 _ _ _ _ (by rw [St.get_new, if_neg (by have := hS2.dom _ _ ga2; omega)]; exact ga2)
    · have : i = x.keys.length := by omega
      subst this
      rw [List.take_length] at hS2
      have hlf2 : decide ((x.keys.length : Int) < (x.keys.length : Int)) = false := decide_eq_false (by omega)
      have l2' : (P1 ++ lebs 1 (x.keys.map Int.toNat)).length ≤ 88 + 351 * j := by rw [List.length_append, lebs_len, List.length_map]; omega
      generalize hP2 : P1 ++ lebs 1 (x.keys.map Int.toNat) = P2 at hS2 l2'
      have hsrc : srcA t2 1 (.slice a9 4 16 16 false) = some (16, x.blk.map u8) := by
        show (match loadA t2 a9 4 (16 * 1) with | some l => some (16, l) | none => none) = _
        have : loadA t2 a9 4 (16 * 1) = some (x.blk.map u8) := by
          unfold loadA
          rw [ga2]
          simp only
          rw [if_pos (by rw [hok.len]; omega), hok.blk]
        rw [this]
      have hbl16 : (x.blk.map u8).length = 16 := by rw [List.length_map, hok.blen]
      have hbd : boundsA 16 16 none none none = some (0, 16, 16) := rfl
      obtain ⟨u3, t3, e3, e4, hS3, hn3, kp3⟩ := hS2.app x.blk (by rw [hok.blen]; omega)
      rw [hok.blen] at e3
      have ga3 := kp3 _ _ _ _ ga2
      have hl2 : 22 ≤ x.cells.length := by rw [hok.len]; omega
      simp -implicitDefEqProofs only [go_sem, Wk_block, Wk_drawnC, reduceCtorEq, Nat.reduceEqDiff, Nat.reduceAdd, Nat.reduceLeDiff, Nat.reduceLT, Nat.reduceMul, Nat.reduceSub, ↓reduceIte, Int.reduceLT, Int.reduceLE, Int.reduceNeg, Int.reduceAdd, Int.reduceEq, Nat.reduceBneDiff, Nat.reduceBEq, Int.reduceToNat, Int.reduceMul, Int.reduceSub, Int.reduceBEq, Int.reduceBNe, Int.cast_ofNat_Int, Int.toNat_natCast_add_one, Nat.add_left_cancel_iff, Nat.left_eq_add, Nat.add_eq_left, Int.toNat_natCast, Nat.add_assoc, Int.ofNat_lt, Int.ofNat_le, Nat.lt_add_one_of_lt, Nat.lt_add_one, Nat.lt_add_right, Nat.lt_add_right_iff_pos, Nat.add_lt_add_iff_left, g80, g79, g7, g9, hlf2, hlt2, ga2, hsrc, hbl16, hbd, e3, ga3, hok.lab, hl2, Nat.mul_one, eq_self, ft, tf]
      have l3' : (P2 ++ x.blk).length ≤ 104 + 351 * j := by rw [List.length_append, hok.blen]; omega
      generalize hP3 : P2 ++ x.blk = P3 at hS3 l3'
      refine Wl_of (refP_run (p := t3.next) (hS3.new (.cells [.int .u32 (x.e : Int), .int .u32 (x.q : Int)] false false 0)).out (by omega) (by rw [St.get_new, if_pos rfl]) (dom_new hS3.dom _) hok.elt hok.qlt) ?_
      rintro u4 t4 ⟨ho4, f4, dd4⟩
      have hS4 := (hS3.new _).set f4 dd4 ho4
      have ga4 := (f4.get a9 (by have := hS3.dom _ _ ga3; simp only [St.next_new]; omega)).trans ((St.get_new ..).trans ((if_neg (by have := hS3.dom _ _ ga3; omega)).trans ga3))
      have l4' : (P3 ++ lebs 4 [x.e, x.q]).length ≤ 112 + 351 * j := by rw [List.length_append, lebs_len]; simp only [List.length_cons, List.length_nil]; omega
      generalize hP4 : P3 ++ lebs 4 [x.e, x.q] = P4 at hS4 l4'
      clear ho4 f4 dd4 hS3 ga3 kp3 hn3 e3 e4 hS2 ga2 hsrc
      have hat : IntKind.i64.wrap (x.at_ + 1) = ((x.at_ + 1).toNat : Int) := by
        have q1 : -1 ≤ x.at_ := p4.1
        have q2 : x.at_ < 65535 := p4.2
        rw [i64_in (by omega) (by omega)]
        omega
      have hat2 : (x.at_ + 1).toNat < 65536 := by
        have q2 : x.at_ < 65535 := p4.2
        omega
      have hat3 := u64_of (n := (x.at_ + 1).toNat) (by omega)
      simp -implicitDefEqProofs only [go_sem, Wk_block, Wk_drawnC, reduceCtorEq, Nat.reduceEqDiff, Nat.reduceAdd, Nat.reduceLeDiff, Nat.reduceLT, Nat.reduceMul, Nat.reduceSub, ↓reduceIte, Int.reduceLT, Int.reduceLE, Int.reduceNeg, Int.reduceAdd, Int.reduceEq, Nat.reduceBneDiff, Nat.reduceBEq, Int.reduceToNat, Int.reduceMul, Int.reduceSub, Int.reduceBEq, Int.reduceBNe, Int.cast_ofNat_Int, Int.toNat_natCast_add_one, Nat.add_left_cancel_iff, Nat.left_eq_add, Nat.add_eq_left, Int.toNat_natCast, Nat.add_assoc, Int.ofNat_lt, Int.ofNat_le, Nat.lt_add_one_of_lt, Nat.lt_add_one, Nat.lt_add_right, Nat.lt_add_right_iff_pos, Nat.add_lt_add_iff_left, g9, ga4, hok.c22, hat, hat3, ft, tf]
      refine Wl_of (refF_run [(2, (x.at_ + 1).toNat)] (by
        intro y hy
        rw [List.mem_singleton.1 hy]
        constructor <;> (dsimp only; omega)) (by simp) (p := t4.next) (k := 1) (L := [.int .u64 2, .int .u64 ((x.at_ + 1).toNat : Int)]) (by rw [St.get_new, if_pos rfl]) rfl rfl (dom_new hS4.dom _)) ?_
      rintro u5 t5 ⟨ho5, f5, dd5⟩
      have hS5 := (hS4.new (.cells [.int .u64 2, .int .u64 ((x.at_ + 1).toNat : Int)] false false 0)).call f5 dd5
      have ga5 := (f5.get a9 (by have := hS4.dom _ _ ga4; simp only [St.next_new]; omega)).trans ((St.get_new ..).trans ((if_neg (by have := hS4.dom _ _ ga4; omega)).trans ga4))
      have hf2 : fieldsN [(2, (x.at_ + 1).toNat)] = lebs 2 [(x.at_ + 1).toNat] := rfl
      have hsrc5 := ho5.src
      rw [hf2] at hsrc5
      have hl5 : ((lebs 2 [(x.at_ + 1).toNat]).map u8).length = 2 := by rw [List.length_map, lebs_len]; rfl
      rw [hl5] at hsrc5
      obtain ⟨u6, t6, e6, e7, hS6, hn6, kp6⟩ := hS5.app (lebs 2 [(x.at_ + 1).toNat]) (by rw [lebs_len]; simp only [List.length_cons, List.length_nil]; omega)
      rw [show (lebs 2 [(x.at_ + 1).toNat]).length = 2 by rw [lebs_len]; rfl] at e6
      have ga6 := kp6 _ _ _ _ ga5
      have l6' : (P4 ++ lebs 2 [(x.at_ + 1).toNat]).length ≤ 114 + 351 * j := by rw [List.length_append, lebs_len]; simp only [List.length_cons, List.length_nil]; omega
      generalize hP6 : P4 ++ lebs 2 [(x.at_ + 1).toNat] = P6 at hS6 l6'
      have hwl := hok.keep.len
      have hc23 := hok.c23
      rw [show x.mask = x.mask % 256 by rw [Nat.mod_eq_of_lt hok.mlt]] at hc23
      have kw : IntKind.u8.wrap (x.keep.length : Int) = ((x.keep.length % 256 : Nat) : Int) := u8_of (a := (x.keep.length : Int)) (by omega)
      have p7' : x.keep.length ≤ 255 := p7
      obtain ⟨u7, t7, i1, i2, hS7, hn7, kp7⟩ := (hS6.new (.cells [.int .u8 ((x.mask % 256 : Nat) : Int), .int .u8 ((x.keep.length % 256 : Nat) : Int)] false false 0)).app (lebs 1 [x.mask, x.keep.length]) (by rw [lebs_len]; simp only [List.length_cons, List.length_nil]; omega)
      have i1' : appendA 1 1 (t6.new (.cells [.int .u8 ((x.mask % 256 : Nat) : Int), .int .u8 ((x.keep.length % 256 : Nat) : Int)] false false 0)) u6 2 [.int .u8 ((x.mask % 256 : Nat) : Int), .int .u8 ((x.keep.length % 256 : Nat) : Int)] = some (u7, t7) := i1
      have ga7 := kp7 a9 x.cells false 0 (by rw [St.get_new, if_neg (by have := hS6.dom _ _ ga6; omega)]; exact ga6)
      have l7' : (P6 ++ lebs 1 [x.mask, x.keep.length]).length ≤ 116 + 351 * j := by rw [List.length_append, lebs_len]; simp only [List.length_cons, List.length_nil]; omega
      generalize hP7 : P6 ++ lebs 1 [x.mask, x.keep.length] = P7 at hS7 l7'
      obtain ⟨u8', t8, i3, i4, hS8, hn8, kp8⟩ := hS7.app x.keep (by omega)
      have hsrc8 := (hokS.mono (fr_keeps hS7.fr hd)).src t7 (fun _ _ h => h)
      have hkl16 : (x.keep.map u8).length = x.keep.length := by rw [List.length_map]
      have hsrc6 : srcA (t6.new (.cells [.int .u8 ((x.mask % 256 : Nat) : Int), .int .u8 ((x.keep.length % 256 : Nat) : Int)] false false 0)) 1 (.slice t6.next 0 2 2 false) = some (2, [.int .u8 ((x.mask % 256 : Nat) : Int), .int .u8 ((x.keep.length % 256 : Nat) : Int)]) := by
        simp [srcA, loadA, St.get_new]
      simp -implicitDefEqProofs only [go_sem, Wk_block, Wk_drawnC, reduceCtorEq, Nat.reduceEqDiff, Nat.reduceAdd, Nat.reduceLeDiff, Nat.reduceLT, Nat.reduceMul, Nat.reduceSub, ↓reduceIte, Int.reduceLT, Int.reduceLE, Int.reduceNeg, Int.reduceAdd, Int.reduceEq, Nat.reduceBneDiff, Nat.reduceBEq, Int.reduceToNat, Int.reduceMul, Int.reduceSub, Int.reduceBEq, Int.reduceBNe, Int.cast_ofNat_Int, Int.toNat_natCast_add_one, Nat.add_left_cancel_iff, Nat.left_eq_add, Nat.add_eq_left, Int.toNat_natCast, Nat.add_assoc, Int.ofNat_lt, Int.ofNat_le, Nat.lt_add_one_of_lt, Nat.lt_add_one, Nat.lt_add_right, Nat.lt_add_right_iff_pos, Nat.add_lt_add_iff_left, g9, g57, g56, g55, ga6, hsrc5, hl5, e6, hc23, hok.c24, hwl, kw, hsrc6, i1', ga7, hsrc8, hkl16, i3, wj, Nat.mul_one, eq_self, ft, tf]
      refine IH (l.length - (j + 1)) _ _ (by omega) ⟨j + 1, u8', rfl, by omega, ?_, ?_, ?_, ?_, ?_⟩
      · simp only [Tr.get_set, Nat.reduceEqDiff, ↓reduceIte, Int.cast_ofNat_Int]
      · simp only [Tr.get_set, Nat.reduceEqDiff, ↓reduceIte, Int.cast_ofNat_Int, g56]
      · simp only [Tr.get_set, Nat.reduceEqDiff, ↓reduceIte, Int.cast_ofNat_Int, g55]
      · simp only [Tr.get_set, Nat.reduceEqDiff, ↓reduceIte, Int.cast_ofNat_Int]
      · rw [htk, ← List.append_assoc, hPe]
        have hec : encC x.con = lebs 1 [x.kind.toNat, x.node.toNat, x.key.toNat, x.keys.length] ++ lebs 1 (x.keys.map Int.toNat) ++ x.blk ++ lebs 4 [x.e, x.q] ++ lebs 2 [(x.at_ + 1).toNat] ++ lebs 1 [x.mask, x.keep.length] ++ x.keep := rfl
        rw [hec, ← hP7, ← hP6, ← hP4, ← hP3, ← hP2, ← hP1] at *
        simp only [List.append_assoc] at hS8 ⊢
        exact hS8
  · have : j = l.length := by omega
    subst this
    rw [List.take_length] at hS
    have hlf : decide ((l.length : Int) < (l.length : Int)) = false := decide_eq_false (by omega)
    have huc := hS.out.cell
    simp -implicitDefEqProofs only [go_sem, Wk_block, Wk_drawnC, reduceCtorEq, Nat.reduceEqDiff, Nat.reduceAdd, Nat.reduceLeDiff, Nat.reduceLT, Nat.reduceMul, Nat.reduceSub, ↓reduceIte, Int.reduceLT, Int.reduceLE, Int.reduceNeg, Int.reduceAdd, Int.reduceEq, Nat.reduceBneDiff, Nat.reduceBEq, Int.reduceToNat, Int.reduceMul, Int.reduceSub, Int.reduceBEq, Int.reduceBNe, Int.cast_ofNat_Int, Int.toNat_natCast_add_one, Nat.add_left_cancel_iff, Nat.left_eq_add, Nat.add_eq_left, Int.toNat_natCast, Nat.add_assoc, Int.ofNat_lt, Int.ofNat_le, Nat.lt_add_one_of_lt, Nat.lt_add_one, Nat.lt_add_right, Nat.lt_add_right_iff_pos, Nat.add_lt_add_iff_left, g57, g56, g7, hlf, hlt, huc, ft, tf]
    refine ⟨fun _ => ⟨u, rfl, ?_⟩, hS.fr, hS.dom⟩
    unfold encA
    rw [List.length_map]
    exact hS.out.le (by omega)
end Go.Proofs.YteiiblpnegjjlaaGreat.Lw
namespace Go.Proofs.YteiiblpnegjjlaaGreat.Lw
open D
set_option linter.unusedSimpArgs false
set_option linter.unusedVariables false
set_option maxRecDepth 10000

def tyCfg : Ty := .many [.int .i64, .many [.many [.int .u32, .int .u32, .int .i64, .int .i64], .int .i64, .int .i64]]
theorem ok_cfg {s : St} {x : List AV} (h : Ok s tyCfg x) : ∃ c : Cfg, x = c.enc ∧ CfgOk c := by
  obtain ⟨_, _, rfl, ⟨p, rfl, _⟩, _, _, rfl, ⟨_, _, rfl, ⟨_, _, rfl, ⟨e, rfl, he1, he2⟩, _, _, rfl, ⟨n, rfl, hn1, hn2⟩, _, _, rfl, ⟨a, rfl, _⟩, _, _, rfl, ⟨b, rfl, _⟩, rfl⟩, _, _, rfl, ⟨d, rfl, _⟩, _, _, rfl, ⟨f, rfl, _⟩, rfl⟩, rfl⟩ := h
  obtain ⟨e, rfl⟩ := nat_of he1
  obtain ⟨n, rfl⟩ := nat_of hn1
  rw [max_u32] at he2 hn2
  exact ⟨⟨p, e, n, a, b, d, f⟩, rfl, ⟨by show e < _; omega, by show n < _; omega⟩⟩
theorem cfg_of {s : St} {v : AV} (h : ArgOk s tyCfg v) : ∃ c : Cfg, v = .agg c.enc ∧ CfgOk c := by
  obtain ⟨l, rfl, h⟩ := h
  obtain ⟨c, rfl, h2⟩ := ok_cfg (x := l) h
  exact ⟨c, rfl, h2⟩
theorem op_of {s : St} {v : AV} (h : ArgOk s tyOp v) : ∃ m : Sop, v = .agg m.cells ∧ SopOk s m := by
  obtain ⟨l, rfl, h⟩ := h
  obtain ⟨m, rfl, h2⟩ := ok_op (x := l) h
  exact ⟨m, rfl, h2⟩
/-- A row of one op. -/
theorem rds_one {s : St} {p c : Nat} {x : Sop} {lo ro b : Bool} {z : Nat} (hd : Dom s) (hx : SopOk s x) (h : s.get p = some (.cells x.cells lo ro z)) : RdS s (.slice p 0 1 c b) [x] where
  len _ := rfl
  at_ j hj := by
    have : j = 0 := by simpa using hj
    subst this
    exact ⟨p, 0, _, _, _, _, fun s' => by rw [idx1_slice (by omega)], h, hd _ _ h, by rw [hx.len]; omega, by simp [List.take_of_length_le (show x.cells.length ≤ 25 by rw [hx.len]; omega)]⟩
  cells := rfl
  cell := rfl
theorem great_facts {l : List Sop} (h : great l = false) : l.length ≤ 420 ∧ ∀ x ∈ l, x.keys.length ≤ 100 ∧ x.keep.length ≤ 400 := by
  unfold great at h
  rw [Bool.or_eq_false_iff] at h
  refine ⟨by simpa using h.1, fun x hx => ?_⟩
  have := List.any_eq_false.1 h.2 x hx
  unfold bigOp at this
  simp at this
  exact this

theorem OutB.tx {s : St} {N : Nat} {u : AV} {L : List Nat} (h : OutB s N u (L.map u8)) : Tx s u L := by
  intro s' hn n ts hts
  have hev : evOf ts (.t n) = some u := hts
  show (match evOf ts (.t n) with
    | some .nilSlice => some (AV.str .empty, s')
    | some (.tail ..) => some (.str .empty, s')
    | some (.raw (.slice _ 0 _)) => some (.str .empty, s')
    | some (.slice _ _ 0 _ _) => some (.str .empty, s')
    | some (.slice b o len _ _) => match loadA s' b o len with
      | some l => match bytesA l with
        | some bs => some (.str ⟨bs.toArray⟩, s')
        | none => none
      | none => none
    | _ => none) = _
  rw [hev]
  rcases h with ⟨rfl, h⟩ | ⟨p, rfl, h, _⟩ | ⟨p, rfl, h1, h2, h3, h4⟩
  · obtain rfl := List.map_eq_nil_iff.1 h
    rfl
  · obtain rfl := List.map_eq_nil_iff.1 h
    rfl
  · cases L with
    | nil => simp at h1
    | cons c r =>
      have hld : loadA s' p 0 ((c :: r).map u8).length = some ((c :: r).map u8) := by
        unfold loadA
        rw [hn _ _ h4]
        simp [List.take_of_length_le]
      show (match loadA s' p 0 ((c :: r).map u8).length with | some l => (match bytesA l with | some bs => some (AV.str ⟨bs.toArray⟩, s') | none => none) | none => none) = _
      rw [hld]
      simp only [bytesA_u8]
      rfl
theorem argsOk1 {s : St} {T : Ty} {a : List AV} (h : ArgsOk s [T] a) : ∃ x, a = [x] ∧ ArgOk s T x := by
  match a, h with
  | [x], ⟨h1, _⟩ => exact ⟨x, rfl, h1⟩
theorem argsOk3 {s : St} {T U V : Ty} {a : List AV} (h : ArgsOk s [T, U, V] a) : ∃ x y z, a = [x, y, z] ∧ ArgOk s T x ∧ ArgOk s U y ∧ ArgOk s V z := by
  match a, h with
  | [x, y, z], ⟨h1, h2, h3, _⟩ => exact ⟨x, y, z, rfl, h1, h2, h3⟩

theorem scriptBytes_run : ∀ (s : St) (a : List AV), Dom s → ArgsOk s [tyCfg, .slice tyOp, tyOp] a → Wf mm 5 a s fun v _ => v = .bool true := by
  rintro s a hd h
  obtain ⟨vc, v, vo, rfl, h0, h1, h2⟩ := argsOk3 h
  obtain ⟨c, rfl, hc⟩ := cfg_of h0
  obtain ⟨l, b, o, hAc, hl⟩ := ops_of h1
  obtain ⟨x, rfl, hx⟩ := op_of h2
  have hA := Acc.rds hAc
  refine Wf_enter ft5 (sm (by decide)) (by rfl) ?_
  have ft : (false == true) = false := rfl
  have tf : (true == false) = false := rfl
  have hlen := hA.len
  have d1 := dom_new (dom_new hd (.cells c.enc false false 0)) (.cells x.cells false false 0)
  have f1 : Fr s ((s.new (.cells c.enc false false 0)).new (.cells x.cells false false 0)) := by (repeat (first | exact FrX.refl _ _ | exact Fr.refl _ | assumption | exact Fr.x (by assumption) _ | refine FrX.put ?_ (.inl rfl) _ | refine FrX.put ?_ (.inr (by first | omega | (simp; done) | (simp; omega))) _ | refine FrX.new ?_ _ | refine Fr.put ?_ (by first | omega | (simp; done) | (simp; omega)) _ | refine Fr.new ?_ _ | refine FrX.then ?_ (by assumption) | refine Fr.trans ?_ (by assumption)))
  have gx : ((s.new (.cells c.enc false false 0)).new (.cells x.cells false false 0)).get (s.next + 1) = some (.cells x.cells false false 0) := by rw [St.get_new, if_pos (by simp)]
  have gc : ((s.new (.cells c.enc false false 0)).new (.cells x.cells false false 0)).get s.next = some (.cells c.enc false false 0) := by rw [St.get_new, if_neg (by simp), St.get_new, if_pos rfl]
  have hxl : 25 ≤ x.cells.length := by rw [hx.len]; omega
  have ht : x.cells.take 25 = x.cells := List.take_of_length_le (by rw [hx.len]; omega)
  simp -implicitDefEqProofs only [go_sem, Wk_block, Wk_drawnC, reduceCtorEq, Nat.reduceEqDiff, Nat.reduceAdd, Nat.reduceLeDiff, Nat.reduceLT, Nat.reduceMul, Nat.reduceSub, ↓reduceIte, Int.reduceLT, Int.reduceLE, Int.reduceNeg, Int.reduceAdd, Int.reduceEq, Nat.reduceBneDiff, Nat.reduceBEq, Int.reduceToNat, Int.reduceMul, Int.reduceSub, Int.reduceBEq, Int.reduceBNe, Int.cast_ofNat_Int, Int.toNat_natCast_add_one, Nat.add_left_cancel_iff, Nat.left_eq_add, Nat.add_eq_left, Int.toNat_natCast, Nat.add_assoc, Int.ofNat_lt, Int.ofNat_le, Nat.lt_add_one_of_lt, Nat.lt_add_one, Nat.lt_add_right, Nat.lt_add_right_iff_pos, Nat.add_lt_add_iff_left, fd5, Wl_eq (alive_eq _), ft, tf]
  generalize (s.new (.cells c.enc false false 0)).new (.cells x.cells false false 0) = s1 at d1 f1 gx gc ⊢
  refine Wl_of (great_run l (hA.mono f1) (fun y hy => (hl y hy).mono (fr_keeps f1 hd)) d1) ?_
  rintro _ s2 ⟨rfl, f2, d2⟩
  have gx2 := (fr_keeps f2 d1) _ _ gx
  have gc2 := (fr_keeps f2 d1) _ _ gc
  cases c1 : great l
  rotate_left
  · simp -implicitDefEqProofs only [go_sem, Wk_block, Wk_drawnC, reduceCtorEq, Nat.reduceEqDiff, Nat.reduceAdd, Nat.reduceLeDiff, Nat.reduceLT, Nat.reduceMul, Nat.reduceSub, ↓reduceIte, Int.reduceLT, Int.reduceLE, Int.reduceNeg, Int.reduceAdd, Int.reduceEq, Nat.reduceBneDiff, Nat.reduceBEq, Int.reduceToNat, Int.reduceMul, Int.reduceSub, Int.reduceBEq, Int.reduceBNe, Int.cast_ofNat_Int, Int.toNat_natCast_add_one, Nat.add_left_cancel_iff, Nat.left_eq_add, Nat.add_eq_left, Int.toNat_natCast, Nat.add_assoc, Int.ofNat_lt, Int.ofNat_le, Nat.lt_add_one_of_lt, Nat.lt_add_one, Nat.lt_add_right, Nat.lt_add_right_iff_pos, Nat.add_lt_add_iff_left, c1, ft, tf]
  simp -implicitDefEqProofs only [go_sem, Wk_block, Wk_drawnC, reduceCtorEq, Nat.reduceEqDiff, Nat.reduceAdd, Nat.reduceLeDiff, Nat.reduceLT, Nat.reduceMul, Nat.reduceSub, ↓reduceIte, Int.reduceLT, Int.reduceLE, Int.reduceNeg, Int.reduceAdd, Int.reduceEq, Nat.reduceBneDiff, Nat.reduceBEq, Int.reduceToNat, Int.reduceMul, Int.reduceSub, Int.reduceBEq, Int.reduceBNe, Int.cast_ofNat_Int, Int.toNat_natCast_add_one, Nat.add_left_cancel_iff, Nat.left_eq_add, Nat.add_eq_left, Int.toNat_natCast, Nat.add_assoc, Int.ofNat_lt, Int.ofNat_le, Nat.lt_add_one_of_lt, Nat.lt_add_one, Nat.lt_add_right, Nat.lt_add_right_iff_pos, Nat.add_lt_add_iff_left, c1, gx2, hxl, ht, hx.len, List.append_nil, List.drop_succ_cons, List.drop_zero, ft, tf]
  have hx2 := hx.mono (fr_keeps (f1.trans f2) hd)
  have gs : (s2.new (.cells x.cells false false 0)).get s2.next = some (.cells x.cells false false 0) := by rw [St.get_new, if_pos rfl]
  refine Wl_of (great_run [x] (rds_one (dom_new d2 _) (hx2.mono (keeps_new d2 _)) gs) (fun y hy => by rw [List.mem_singleton.1 hy]; exact hx2.mono (keeps_new d2 _)) (dom_new d2 _)) ?_
  rintro _ s3 ⟨rfl, f3, d3⟩
  have f03 : Fr s s3 := (f1.trans f2).trans (((Fr.refl s2).new _).trans f3)
  have gx3 := (fr_keeps f3 (dom_new d2 _)) _ _ (keeps_new d2 (.cells x.cells false false 0) _ _ gx2)
  have gc3 := (fr_keeps f3 (dom_new d2 _)) _ _ (keeps_new d2 (.cells x.cells false false 0) _ _ gc2)
  clear f2 f3 gs hx2 gx2 gc2 gx gc
  cases c2 : great [x]
  rotate_left
  · simp -implicitDefEqProofs only [go_sem, Wk_block, Wk_drawnC, reduceCtorEq, Nat.reduceEqDiff, Nat.reduceAdd, Nat.reduceLeDiff, Nat.reduceLT, Nat.reduceMul, Nat.reduceSub, ↓reduceIte, Int.reduceLT, Int.reduceLE, Int.reduceNeg, Int.reduceAdd, Int.reduceEq, Nat.reduceBneDiff, Nat.reduceBEq, Int.reduceToNat, Int.reduceMul, Int.reduceSub, Int.reduceBEq, Int.reduceBNe, Int.cast_ofNat_Int, Int.toNat_natCast_add_one, Nat.add_left_cancel_iff, Nat.left_eq_add, Nat.add_eq_left, Int.toNat_natCast, Nat.add_assoc, Int.ofNat_lt, Int.ofNat_le, Nat.lt_add_one_of_lt, Nat.lt_add_one, Nat.lt_add_right, Nat.lt_add_right_iff_pos, Nat.add_lt_add_iff_left, c2, ft, tf]
  obtain ⟨h420, hsz⟩ := great_facts c1
  obtain ⟨-, hxz⟩ := great_facts c2
  have hxz := hxz x (List.mem_singleton.2 rfl)
  simp -implicitDefEqProofs only [go_sem, Wk_block, Wk_drawnC, reduceCtorEq, Nat.reduceEqDiff, Nat.reduceAdd, Nat.reduceLeDiff, Nat.reduceLT, Nat.reduceMul, Nat.reduceSub, ↓reduceIte, Int.reduceLT, Int.reduceLE, Int.reduceNeg, Int.reduceAdd, Int.reduceEq, Nat.reduceBneDiff, Nat.reduceBEq, Int.reduceToNat, Int.reduceMul, Int.reduceSub, Int.reduceBEq, Int.reduceBNe, Int.cast_ofNat_Int, Int.toNat_natCast_add_one, Nat.add_left_cancel_iff, Nat.left_eq_add, Nat.add_eq_left, Int.toNat_natCast, Nat.add_assoc, Int.ofNat_lt, Int.ofNat_le, Nat.lt_add_one_of_lt, Nat.lt_add_one, Nat.lt_add_right, Nat.lt_add_right_iff_pos, Nat.add_lt_add_iff_left, c2, hlen, ft, tf]
  refine loop_ind (fun m ts s' => ∃ j : Nat, m = l.length - j ∧ j ≤ l.length ∧ ts.get 24 = some (.int .i64 (j : Int)) ∧ ts.get 23 = some (.int .i64 (l.length : Int)) ∧ ts.get 22 = some v ∧ ts.get 5 = some (.ptr (s.next + 1) 0) ∧ ts.get 3 = some (.ptr s.next 0) ∧ ts.get 1 = some v ∧ Fr s s' ∧ Dom s' ∧ s'.get (s.next + 1) = some (.cells x.cells false false 0) ∧ s'.get s.next = some (.cells c.enc false false 0)) ?_ (n := l.length)
    ⟨0, rfl, by omega, by simp only [Tr.get_set, Nat.reduceEqDiff, ↓reduceIte, Int.cast_ofNat_Int], by simp only [Tr.get_set, Nat.reduceEqDiff, ↓reduceIte, Int.cast_ofNat_Int], by simp only [Tr.get_set, Nat.reduceEqDiff, ↓reduceIte, Int.cast_ofNat_Int], by simp only [Tr.get_set, Nat.reduceEqDiff, ↓reduceIte, Int.cast_ofNat_Int], by simp only [Tr.get_set, Nat.reduceEqDiff, ↓reduceIte, Int.cast_ofNat_Int], by simp only [Tr.get_set, Nat.reduceEqDiff, ↓reduceIte, Int.cast_ofNat_Int], f03, d3, gx3, gc3⟩
  clear f03 d3 gx3 gc3
  rintro m ts t0 ⟨j, rfl, hj, g24, g23, g22, g5, g3, g1, f, d, gx, gc⟩ IH
  by_cases hlt : j < l.length
  · have hA1 := hA.mono f
    obtain ⟨b, o, vs, lo, ro, z, hidx, hv, hbl, hle, he⟩ := hA1.at_ j hlt
    have hok := (hl l[j] (List.getElem_mem hlt)).mono (fr_keeps f hd)
    have hz := hsz l[j] (List.getElem_mem hlt)
    generalize l[j] = y at he hok hz
    have wj := succ_in (j := j) (by omega)
    have hty : y.cells.take 25 = y.cells := List.take_of_length_le (by rw [hok.len]; omega)
    have hx0 := hx.mono (fr_keeps f hd)
    have dn : Dom (t0.new (.cells y.cells false false 0)) := dom_new d _
    have kn := keeps_new d (.cells y.cells false false 0)
    have gy : (t0.new (.cells y.cells false false 0)).get t0.next = some (.cells y.cells false false 0) := by rw [St.get_new, if_pos rfl]
    have gxn := kn _ _ gx
    simp -implicitDefEqProofs only [go_sem, Wk_block, Wk_drawnC, reduceCtorEq, Nat.reduceEqDiff, Nat.reduceAdd, Nat.reduceLeDiff, Nat.reduceLT, Nat.reduceMul, Nat.reduceSub, ↓reduceIte, Int.reduceLT, Int.reduceLE, Int.reduceNeg, Int.reduceAdd, Int.reduceEq, Nat.reduceBneDiff, Nat.reduceBEq, Int.reduceToNat, Int.reduceMul, Int.reduceSub, Int.reduceBEq, Int.reduceBNe, Int.cast_ofNat_Int, Int.toNat_natCast_add_one, Nat.add_left_cancel_iff, Nat.left_eq_add, Nat.add_eq_left, Int.toNat_natCast, Nat.add_assoc, Int.ofNat_lt, Int.ofNat_le, Nat.lt_add_one_of_lt, Nat.lt_add_one, Nat.lt_add_right, Nat.lt_add_right_iff_pos, Nat.add_lt_add_iff_left, g24, g23, g22, g5, g3, g1, hlt, hidx, hv, hle, he, hok.len, hok.cell, hty, gxn, hxl, ht, ft, tf]
    refine Wl_of (Same_run (hok.mono kn) (hx0.mono kn) dn (by omega) (by omega)) ?_
    rintro _ t1 ⟨rfl, fa, da⟩
    have gy1 := (fr_keeps fa dn) _ _ gy
    have gx1 := (fr_keeps fa dn) _ _ gxn
    have ka := fr_keeps fa dn
    simp -implicitDefEqProofs only [go_sem, Wk_block, Wk_drawnC, reduceCtorEq, Nat.reduceEqDiff, Nat.reduceAdd, Nat.reduceLeDiff, Nat.reduceLT, Nat.reduceMul, Nat.reduceSub, ↓reduceIte, Int.reduceLT, Int.reduceLE, Int.reduceNeg, Int.reduceAdd, Int.reduceEq, Nat.reduceBneDiff, Nat.reduceBEq, Int.reduceToNat, Int.reduceMul, Int.reduceSub, Int.reduceBEq, Int.reduceBNe, Int.cast_ofNat_Int, Int.toNat_natCast_add_one, Nat.add_left_cancel_iff, Nat.left_eq_add, Nat.add_eq_left, Int.toNat_natCast, Nat.add_assoc, Int.ofNat_lt, Int.ofNat_le, Nat.lt_add_one_of_lt, Nat.lt_add_one, Nat.lt_add_right, Nat.lt_add_right_iff_pos, Nat.add_lt_add_iff_left, g5, gy1, gx1, hok.len, hxl, ht, hty, ft, tf]
    refine Wl_of (refSame_run ((hok.mono kn).mono ka) ((hx0.mono kn).mono ka) da (by omega) (by omega)) ?_
    rintro _ t2 ⟨rfl, fb, db⟩
    have gy2 := (fr_keeps fb da) _ _ gy1
    have gx2 := (fr_keeps fb da) _ _ gx1
    have hne : (sameOp y x != sameOp y x) = false := by simp
    simp -implicitDefEqProofs only [go_sem, Wk_block, Wk_drawnC, reduceCtorEq, Nat.reduceEqDiff, Nat.reduceAdd, Nat.reduceLeDiff, Nat.reduceLT, Nat.reduceMul, Nat.reduceSub, ↓reduceIte, Int.reduceLT, Int.reduceLE, Int.reduceNeg, Int.reduceAdd, Int.reduceEq, Nat.reduceBneDiff, Nat.reduceBEq, Int.reduceToNat, Int.reduceMul, Int.reduceSub, Int.reduceBEq, Int.reduceBNe, Int.cast_ofNat_Int, Int.toNat_natCast_add_one, Nat.add_left_cancel_iff, Nat.left_eq_add, Nat.add_eq_left, Int.toNat_natCast, Nat.add_assoc, Int.ofNat_lt, Int.ofNat_le, Nat.lt_add_one_of_lt, Nat.lt_add_one, Nat.lt_add_right, Nat.lt_add_right_iff_pos, Nat.add_lt_add_iff_left, g24, g23, g22, g5, g3, g1, gy1, gx1, gy2, gx2, gy, gxn, hne, hok.len, hxl, ht, hty, wj, ft, tf]
    refine ⟨by rw [hok.sm, hx.sm]; rfl, ?_⟩
    refine IH (l.length - (j + 1)) _ _ (by omega) ⟨j + 1, rfl, by omega, ?_, ?_, ?_, ?_, ?_, ?_, ((f.new _).trans fa).trans fb, db, gx2, (fr_keeps fb da) _ _ ((fr_keeps fa dn) _ _ (kn _ _ gc))⟩
    · simp only [Tr.get_set, Nat.reduceEqDiff, ↓reduceIte, Int.cast_ofNat_Int]
    · simp only [Tr.get_set, Nat.reduceEqDiff, ↓reduceIte, Int.cast_ofNat_Int, g23]
    · simp only [Tr.get_set, Nat.reduceEqDiff, ↓reduceIte, Int.cast_ofNat_Int, g22]
    · simp only [Tr.get_set, Nat.reduceEqDiff, ↓reduceIte, Int.cast_ofNat_Int, g5]
    · simp only [Tr.get_set, Nat.reduceEqDiff, ↓reduceIte, Int.cast_ofNat_Int, g3]
    · simp only [Tr.get_set, Nat.reduceEqDiff, ↓reduceIte, Int.cast_ofNat_Int, g1]
  · have : j = l.length := by omega
    subst this
    have hlf : decide ((l.length : Int) < (l.length : Int)) = false := decide_eq_false (by omega)
    have hce : 7 ≤ c.enc.length := Nat.le_refl 7
    have hct : List.take 7 c.enc = c.enc := rfl
    simp -implicitDefEqProofs only [go_sem, Wk_block, Wk_drawnC, reduceCtorEq, Nat.reduceEqDiff, Nat.reduceAdd, Nat.reduceLeDiff, Nat.reduceLT, Nat.reduceMul, Nat.reduceSub, ↓reduceIte, Int.reduceLT, Int.reduceLE, Int.reduceNeg, Int.reduceAdd, Int.reduceEq, Nat.reduceBneDiff, Nat.reduceBEq, Int.reduceToNat, Int.reduceMul, Int.reduceSub, Int.reduceBEq, Int.reduceBNe, Int.cast_ofNat_Int, Int.toNat_natCast_add_one, Nat.add_left_cancel_iff, Nat.left_eq_add, Nat.add_eq_left, Int.toNat_natCast, Nat.add_assoc, Int.ofNat_lt, Int.ofNat_le, Nat.lt_add_one_of_lt, Nat.lt_add_one, Nat.lt_add_right, Nat.lt_add_right_iff_pos, Nat.add_lt_add_iff_left, g24, g23, g22, g5, g3, g1, hlf, hlt, gc, hce, hct, ft, tf]
    have hk1 : ∀ x ∈ l, x.keys.length ≤ 1000 := fun x hx => by have := (hsz x hx).1; omega
    refine Wl_of (Bytes_run c l (hA.mono f) (fun y hy => (hl y hy).mono (fr_keeps f hd)) hk1 d (by omega) hc) ?_
    rintro w1 t1 ⟨ha1, ha2, fa, da⟩
    have gc1 := (fr_keeps fa d) _ _ gc
    have gq1 := f.trans fa
    cases hp : plainS c l
    · rw [ha2 hp]
      simp -implicitDefEqProofs only [go_sem, Wk_block, Wk_drawnC, reduceCtorEq, Nat.reduceEqDiff, Nat.reduceAdd, Nat.reduceLeDiff, Nat.reduceLT, Nat.reduceMul, Nat.reduceSub, ↓reduceIte, Int.reduceLT, Int.reduceLE, Int.reduceNeg, Int.reduceAdd, Int.reduceEq, Nat.reduceBneDiff, Nat.reduceBEq, Int.reduceToNat, Int.reduceMul, Int.reduceSub, Int.reduceBEq, Int.reduceBNe, Int.cast_ofNat_Int, Int.toNat_natCast_add_one, Nat.add_left_cancel_iff, Nat.left_eq_add, Nat.add_eq_left, Int.toNat_natCast, Nat.add_assoc, Int.ofNat_lt, Int.ofNat_le, Nat.lt_add_one_of_lt, Nat.lt_add_one, Nat.lt_add_right, Nat.lt_add_right_iff_pos, Nat.add_lt_add_iff_left, g3, g1, gc1, hce, hct, ft, tf]
      refine Wl_of (refBytes_run c l (hA.mono gq1) (fun y hy => (hl y hy).mono (fr_keeps gq1 hd)) hk1 da (by omega) hc) ?_
      rintro w2 t2 ⟨hb1, hb2, fb, db⟩
      have gc2 := (fr_keeps fb da) _ _ gc1
      rw [hb2 hp]
      have hsb : strBin BinOp.eql ByteArray.empty ByteArray.empty = some (.bool true) := by
        show some (AV.bool (ByteArray.empty.toList == ByteArray.empty.toList)) = _
        simp
      simp -implicitDefEqProofs only [go_sem, Wk_block, Wk_drawnC, reduceCtorEq, Nat.reduceEqDiff, Nat.reduceAdd, Nat.reduceLeDiff, Nat.reduceLT, Nat.reduceMul, Nat.reduceSub, ↓reduceIte, Int.reduceLT, Int.reduceLE, Int.reduceNeg, Int.reduceAdd, Int.reduceEq, Nat.reduceBneDiff, Nat.reduceBEq, Int.reduceToNat, Int.reduceMul, Int.reduceSub, Int.reduceBEq, Int.reduceBNe, Int.cast_ofNat_Int, Int.toNat_natCast_add_one, Nat.add_left_cancel_iff, Nat.left_eq_add, Nat.add_eq_left, Int.toNat_natCast, Nat.add_assoc, Int.ofNat_lt, Int.ofNat_le, Nat.lt_add_one_of_lt, Nat.lt_add_one, Nat.lt_add_right, Nat.lt_add_right_iff_pos, Nat.add_lt_add_iff_left, g3, g1, gc2, hce, hct, hsb, ft, tf]
      refine Wl_of (PlainS_run c l (hA.mono (gq1.trans fb)) (fun y hy => (hl y hy).mono (fr_keeps (gq1.trans fb) hd)) hk1 db (by omega)) ?_
      rintro _ t3 ⟨rfl, fe, de⟩
      have gc3 := (fr_keeps fe db) _ _ gc2
      simp -implicitDefEqProofs only [go_sem, Wk_block, Wk_drawnC, reduceCtorEq, Nat.reduceEqDiff, Nat.reduceAdd, Nat.reduceLeDiff, Nat.reduceLT, Nat.reduceMul, Nat.reduceSub, ↓reduceIte, Int.reduceLT, Int.reduceLE, Int.reduceNeg, Int.reduceAdd, Int.reduceEq, Nat.reduceBneDiff, Nat.reduceBEq, Int.reduceToNat, Int.reduceMul, Int.reduceSub, Int.reduceBEq, Int.reduceBNe, Int.cast_ofNat_Int, Int.toNat_natCast_add_one, Nat.add_left_cancel_iff, Nat.left_eq_add, Nat.add_eq_left, Int.toNat_natCast, Nat.add_assoc, Int.ofNat_lt, Int.ofNat_le, Nat.lt_add_one_of_lt, Nat.lt_add_one, Nat.lt_add_right, Nat.lt_add_right_iff_pos, Nat.add_lt_add_iff_left, g3, g1, gc2, gc3, hce, hct, ft, tf]
      refine Wl_of (refPlain_run c l (hA.mono ((gq1.trans fb).trans fe)) (fun y hy => (hl y hy).mono (fr_keeps ((gq1.trans fb).trans fe) hd)) hk1 de (by omega)) ?_
      rintro _ t4 ⟨rfl, fg, dg⟩
      have gc4 := (fr_keeps fg de) _ _ gc3
      have hps : (plainS c l == plainS c l) = true := by simp
      have hcs : sames c.enc c.enc = true := by simp [Cfg.enc, sames, same]
      simp -implicitDefEqProofs only [go_sem, Wk_block, Wk_drawnC, reduceCtorEq, Nat.reduceEqDiff, Nat.reduceAdd, Nat.reduceLeDiff, Nat.reduceLT, Nat.reduceMul, Nat.reduceSub, ↓reduceIte, Int.reduceLT, Int.reduceLE, Int.reduceNeg, Int.reduceAdd, Int.reduceEq, Nat.reduceBneDiff, Nat.reduceBEq, Int.reduceToNat, Int.reduceMul, Int.reduceSub, Int.reduceBEq, Int.reduceBNe, Int.cast_ofNat_Int, Int.toNat_natCast_add_one, Nat.add_left_cancel_iff, Nat.left_eq_add, Nat.add_eq_left, Int.toNat_natCast, Nat.add_assoc, Int.ofNat_lt, Int.ofNat_le, Nat.lt_add_one_of_lt, Nat.lt_add_one, Nat.lt_add_right, Nat.lt_add_right_iff_pos, Nat.add_lt_add_iff_left, g3, g1, gc2, gc3, gc4, hce, hct, hps, hcs, ft, tf]
    · obtain ⟨u1, rfl, ho1⟩ := ha1 hp
      simp -implicitDefEqProofs only [go_sem, Wk_block, Wk_drawnC, reduceCtorEq, Nat.reduceEqDiff, Nat.reduceAdd, Nat.reduceLeDiff, Nat.reduceLT, Nat.reduceMul, Nat.reduceSub, ↓reduceIte, Int.reduceLT, Int.reduceLE, Int.reduceNeg, Int.reduceAdd, Int.reduceEq, Nat.reduceBneDiff, Nat.reduceBEq, Int.reduceToNat, Int.reduceMul, Int.reduceSub, Int.reduceBEq, Int.reduceBNe, Int.cast_ofNat_Int, Int.toNat_natCast_add_one, Nat.add_left_cancel_iff, Nat.left_eq_add, Nat.add_eq_left, Int.toNat_natCast, Nat.add_assoc, Int.ofNat_lt, Int.ofNat_le, Nat.lt_add_one_of_lt, Nat.lt_add_one, Nat.lt_add_right, Nat.lt_add_right_iff_pos, Nat.add_lt_add_iff_left, g3, g1, gc1, hce, hct, ft, tf]
      refine Wl_of (refBytes_run c l (hA.mono gq1) (fun y hy => (hl y hy).mono (fr_keeps gq1 hd)) hk1 da (by omega) hc) ?_
      rintro w2 t2 ⟨hb1, hb2, fb, db⟩
      have gc2 := (fr_keeps fb da) _ _ gc1
      obtain ⟨u2, rfl, ho2⟩ := hb1 hp
      have ht1 := (ho1.tx.mono (fr_keeps fb da)) t2 (fun _ _ h => h) 0 (Tr.lf.set 0 u1) (by simp only [Tr.get_set, Nat.reduceEqDiff, ↓reduceIte, Int.cast_ofNat_Int])
      have ht2 := ho2.tx t2 (fun _ _ h => h) 0 (Tr.lf.set 0 u2) (by simp only [Tr.get_set, Nat.reduceEqDiff, ↓reduceIte, Int.cast_ofNat_Int])
      simp -implicitDefEqProofs only [go_sem, Wk_block, Wk_drawnC, reduceCtorEq, Nat.reduceEqDiff, Nat.reduceAdd, Nat.reduceLeDiff, Nat.reduceLT, Nat.reduceMul, Nat.reduceSub, ↓reduceIte, Int.reduceLT, Int.reduceLE, Int.reduceNeg, Int.reduceAdd, Int.reduceEq, Nat.reduceBneDiff, Nat.reduceBEq, Int.reduceToNat, Int.reduceMul, Int.reduceSub, Int.reduceBEq, Int.reduceBNe, Int.cast_ofNat_Int, Int.toNat_natCast_add_one, Nat.add_left_cancel_iff, Nat.left_eq_add, Nat.add_eq_left, Int.toNat_natCast, Nat.add_assoc, Int.ofNat_lt, Int.ofNat_le, Nat.lt_add_one_of_lt, Nat.lt_add_one, Nat.lt_add_right, Nat.lt_add_right_iff_pos, Nat.add_lt_add_iff_left] at ht1 ht2
      have hsb : strBin BinOp.eql (txt (encA c (l.map Sop.con))) (txt (encA c (l.map Sop.con))) = some (.bool true) := by
        show some (AV.bool ((txt (encA c (l.map Sop.con))).toList == (txt (encA c (l.map Sop.con))).toList)) = _
        simp
      simp -implicitDefEqProofs only [go_sem, Wk_block, Wk_drawnC, reduceCtorEq, Nat.reduceEqDiff, Nat.reduceAdd, Nat.reduceLeDiff, Nat.reduceLT, Nat.reduceMul, Nat.reduceSub, ↓reduceIte, Int.reduceLT, Int.reduceLE, Int.reduceNeg, Int.reduceAdd, Int.reduceEq, Nat.reduceBneDiff, Nat.reduceBEq, Int.reduceToNat, Int.reduceMul, Int.reduceSub, Int.reduceBEq, Int.reduceBNe, Int.cast_ofNat_Int, Int.toNat_natCast_add_one, Nat.add_left_cancel_iff, Nat.left_eq_add, Nat.add_eq_left, Int.toNat_natCast, Nat.add_assoc, Int.ofNat_lt, Int.ofNat_le, Nat.lt_add_one_of_lt, Nat.lt_add_one, Nat.lt_add_right, Nat.lt_add_right_iff_pos, Nat.add_lt_add_iff_left, g3, g1, gc2, ht1, ht2, hsb, hce, hct, ft, tf]
      refine Wl_of (PlainS_run c l (hA.mono (gq1.trans fb)) (fun y hy => (hl y hy).mono (fr_keeps (gq1.trans fb) hd)) hk1 db (by omega)) ?_
      rintro _ t3 ⟨rfl, fe, de⟩
      have gc3 := (fr_keeps fe db) _ _ gc2
      simp -implicitDefEqProofs only [go_sem, Wk_block, Wk_drawnC, reduceCtorEq, Nat.reduceEqDiff, Nat.reduceAdd, Nat.reduceLeDiff, Nat.reduceLT, Nat.reduceMul, Nat.reduceSub, ↓reduceIte, Int.reduceLT, Int.reduceLE, Int.reduceNeg, Int.reduceAdd, Int.reduceEq, Nat.reduceBneDiff, Nat.reduceBEq, Int.reduceToNat, Int.reduceMul, Int.reduceSub, Int.reduceBEq, Int.reduceBNe, Int.cast_ofNat_Int, Int.toNat_natCast_add_one, Nat.add_left_cancel_iff, Nat.left_eq_add, Nat.add_eq_left, Int.toNat_natCast, Nat.add_assoc, Int.ofNat_lt, Int.ofNat_le, Nat.lt_add_one_of_lt, Nat.lt_add_one, Nat.lt_add_right, Nat.lt_add_right_iff_pos, Nat.add_lt_add_iff_left, g3, g1, gc2, gc3, hce, hct, ft, tf]
      refine Wl_of (refPlain_run c l (hA.mono ((gq1.trans fb).trans fe)) (fun y hy => (hl y hy).mono (fr_keeps ((gq1.trans fb).trans fe) hd)) hk1 de (by omega)) ?_
      rintro _ t4 ⟨rfl, fg, dg⟩
      have gc4 := (fr_keeps fg de) _ _ gc3
      have hps : (plainS c l == plainS c l) = true := by simp
      have hcs : sames c.enc c.enc = true := by simp [Cfg.enc, sames, same]
      simp -implicitDefEqProofs only [go_sem, Wk_block, Wk_drawnC, reduceCtorEq, Nat.reduceEqDiff, Nat.reduceAdd, Nat.reduceLeDiff, Nat.reduceLT, Nat.reduceMul, Nat.reduceSub, ↓reduceIte, Int.reduceLT, Int.reduceLE, Int.reduceNeg, Int.reduceAdd, Int.reduceEq, Nat.reduceBneDiff, Nat.reduceBEq, Int.reduceToNat, Int.reduceMul, Int.reduceSub, Int.reduceBEq, Int.reduceBNe, Int.cast_ofNat_Int, Int.toNat_natCast_add_one, Nat.add_left_cancel_iff, Nat.left_eq_add, Nat.add_eq_left, Int.toNat_natCast, Nat.add_assoc, Int.ofNat_lt, Int.ofNat_le, Nat.lt_add_one_of_lt, Nat.lt_add_one, Nat.lt_add_right, Nat.lt_add_right_iff_pos, Nat.add_lt_add_iff_left, g3, g1, gc2, gc3, gc4, hce, hct, hps, hcs, ft, tf]
end Go.Proofs.YteiiblpnegjjlaaGreat.Lw
