/- The rules by which a run with unknown values is carried out, as one set. -/
import Derived.Test.YteffppdkofdmdaaDW
import Derived.Attr
namespace Go.Proofs.Yteffppdkofdmdaa.D
set_option linter.unusedSimpArgs false
set_option linter.unusedVariables false
theorem leaf_int {k : IntKind} {a b : Int} : leafEq 1 (.int k a) (.int k b) = some (a == b) := by simp [leafEq]
theorem cellsEq_int {ks : List Nat} {l m : List AV} {k : IntKind} {a b : Int} {r : Bool} (hl : l.length = ks.length) (hm : m.length = ks.length) (h : cellsEq ks l m = some r) : cellsEq (1 :: ks) (.int k a :: l) (.int k b :: m) = some (a == b && r) := by
  simp only [cellsEq, leaf_int]
  cases hab : a == b with
  | true => simp [h]
  | false => simp [hl, hm]
theorem cellsEq_nil : cellsEq [] [] [] = some true := rfl
theorem cellsEq1 {k : IntKind} {a b : Int} : cellsEq [1] [.int k a] [.int k b] = some (a == b) := by rw [cellsEq_int rfl rfl cellsEq_nil, Bool.and_true]
theorem cellsEq2 {k k' : IntKind} {a b c d : Int} : cellsEq [1, 1] [.int k a, .int k' b] [.int k c, .int k' d] = some (a == c && b == d) := cellsEq_int rfl rfl cellsEq1
theorem cellsEq3 {k k' k2 : IntKind} {a b c d e f : Int} : cellsEq [1, 1, 1] [.int k a, .int k' b, .int k2 e] [.int k c, .int k' d, .int k2 f] = some (a == c && (b == d && e == f)) := cellsEq_int rfl rfl cellsEq2
/-- How long a slice is. -/
def len1 (v : Option AV) (s : St) : Option (AV × St) :=
  match v with
  | some .nilSlice => some (.int .i64 0, s)
  | some (.tail ..) => some (.int .i64 0, s)
  | some (.slice _ _ n _ _) => some (.int .i64 n, s)
  | some (.raw (.slice _ n _)) => some (.int .i64 n, s)
  | _ => none
/-- Where an element of a slice lies. -/
def idx1 (e : Nat) (v i : Option AV) (s : St) : Option (AV × St) :=
  match v, i with
  | some (.slice b o len _ _), some i => match indexA i len with
    | some k => some (.ptr b (o + k * e), s)
    | none => none
  | _, _ => none
theorem len1_nil {s : St} : len1 (some .nilSlice) s = some (.int .i64 0, s) := rfl
theorem len1_tail {s : St} {b o a : Nat} : len1 (some (.tail b o a)) s = some (.int .i64 0, s) := rfl
theorem len1_slice {s : St} {b o n c : Nat} {l : Bool} : len1 (some (.slice b o n c l)) s = some (.int .i64 n, s) := rfl
theorem len1_raw {s : St} {a : Option Addr} {n c : Nat} : len1 (some (.raw (.slice a n c))) s = some (.int .i64 n, s) := rfl
theorem indexA_nat {k : IntKind} {j n : Nat} (h : j < n) : indexA (.int k (j : Int)) n = some j := by
  show (if 0 ≤ (j : Int) ∧ (j : Int) < (n : Int) then some ((j : Int).toNat) else none) = some j
  rw [if_pos ⟨by omega, by omega⟩]
  simp
theorem idx1_slice {e b o n c j : Nat} {l : Bool} {s : St} {k : IntKind} (h : j < n) : idx1 e (some (.slice b o n c l)) (some (.int k (j : Int))) s = some (.ptr b (o + j * e), s) := by
  unfold idx1
  simp only [indexA_nat h]
theorem idx1_slice0 {e b o n c : Nat} {l : Bool} {s : St} {k : IntKind} (h : 0 < n) : idx1 e (some (.slice b o n c l)) (some (.int k 0)) s = some (.ptr b o, s) := by
  have := idx1_slice (e := e) (b := b) (o := o) (c := c) (l := l) (s := s) (k := k) h
  simpa using this
section
variable {M : Mach} {ro : Option Nat} {k : List Fk} {dr : Dr} {ops : List PO} {ts : Tr AV} {ds : List Nat} {s : St} {Q : Post} {d : Option Nat}
theorem Wo_len0 {x : X} : Wo M ro k dr (⟨d, .len 0 x, none⟩ :: ops) ts ds s Q = Wx M ro (xop (.len 0 x) (evOf ts) s) d k (dr.push s) ops ts ds Q := Wo_op rfl
theorem Wo_len1 {x : X} : Wo M ro k dr (⟨d, .len 1 x, none⟩ :: ops) ts ds s Q = Wx M ro (len1 (evOf ts x) s) d k (dr.push s) ops ts ds Q := Wo_op rfl
theorem Wo_len2 {x : X} : Wo M ro k dr (⟨d, .len 2 x, none⟩ :: ops) ts ds s Q = Wx M ro (xop (.len 2 x) (evOf ts) s) d k (dr.push s) ops ts ds Q := Wo_op rfl
theorem Wo_idx1 {e : Nat} {x i : X} : Wo M ro k dr (⟨d, .idxSl e x i, none⟩ :: ops) ts ds s Q = Wx M ro (idx1 e (evOf ts x) (evOf ts i) s) d k (dr.push s) ops ts ds Q := Wo_op rfl
end
theorem Wk_cut {M : Mach} {ro : Option Nat} {k : List Fk} {c : PC} {ts : Tr AV} {ds : List Nat} {s : St} {Q : Post} (I : Tr AV → St → Prop) (h1 : Wk M ro [] c ts ds s fun x ts' ds' s' => x = .normal ∧ ds' = ds ∧ I ts' s')
    (h2 : ∀ ts' s', I ts' s' → Wr M ro k .normal ts' ds s' Q) : Wk M ro k c ts ds s Q := by
  obtain ⟨x, ts', ds', s', he, h⟩ := h1
  rw [Wr_nil] at h
  obtain ⟨rfl, rfl, hI⟩ := h
  exact ⟨_, _, _, _, he, h2 _ _ hI⟩
theorem i64_in {n : Int} (h : -9223372036854775808 ≤ n) (k : n ≤ 9223372036854775807) : IntKind.i64.wrap n = n := by
  simp [IntKind.wrap, IntKind.signed, IntKind.bits]; omega
theorem u64_in {n : Int} (h : 0 ≤ n) (k : n ≤ 18446744073709551615) : IntKind.u64.wrap n = n := by
  simp [IntKind.wrap, IntKind.signed, IntKind.bits]; omega
theorem u32_in {n : Int} (h : 0 ≤ n) (k : n ≤ 4294967295) : IntKind.u32.wrap n = n := by
  simp [IntKind.wrap, IntKind.signed, IntKind.bits]; omega
theorem u8_in {n : Int} (h : 0 ≤ n) (k : n ≤ 255) : IntKind.u8.wrap n = n := by
  simp [IntKind.wrap, IntKind.signed, IntKind.bits]; omega
theorem succ_in {j : Nat} (h : j < 9223372036854775807) : IntKind.i64.wrap ((j : Int) + 1) = ((j + 1 : Nat) : Int) := by
  rw [i64_in (by omega) (by omega)]; simp
theorem Tr.put_one {α : Type} (v u : Option α) : ∀ (n k : Nat), k < n → Tr.put v (Tr.one u n k) k = Tr.one v n k
  | 0, k, h => by omega
  | n + 1, 0, _ => rfl
  | n + 1, k + 1, h => by
    have ih := Tr.put_one v u n (k / 2) (by omega)
    simp only [Tr.one_succ, Tr.beq_mod]
    by_cases hp : k % 2 = 0
    · simp only [hp, decide_true, Tr.put_nd_succ, Tr.beq_mod, ih]
    · simp only [hp, decide_false, Tr.put_nd_succ, Tr.beq_mod, ih]
theorem Tr.put_put {α : Type} (v u : Option α) : ∀ (t : Tr α) (k : Nat), Tr.put v (Tr.put u t k) k = Tr.put v t k
  | .lf, k => by rw [Tr.put_lf, Tr.put_lf, Tr.put_one v u _ _ (by omega)]
  | .nd l x r, 0 => rfl
  | .nd l x r, k + 1 => by
    simp only [Tr.put_nd_succ, Tr.beq_mod]
    by_cases hp : k % 2 = 0
    · simp only [hp, decide_true, Tr.put_nd_succ, Tr.beq_mod, Tr.put_put v u l]
    · simp only [hp, decide_false, Tr.put_nd_succ, Tr.beq_mod, Tr.put_put v u r]
theorem St.put_put {s : St} {b : Nat} {o o' : AObj} : (s.put b o).put b o' = s.put b o' := by
  unfold St.put Tr.set
  simp only [Tr.put_put]
theorem St.put_new {s : St} {o o' : AObj} : (s.new o).put s.next o' = s.new o' := by
  unfold St.put St.new Tr.set
  simp only [Tr.put_put]
theorem St.put_new1 {s : St} {o p o' : AObj} : ((s.new o).new p).put (s.next + 1) o' = (s.new o).new o' := St.put_new
theorem cells_bool {b : Bool} : (.bool b : AV).cells = [.bool b] := rfl
theorem cell_bool {b : Bool} : (.bool b : AV).cell = true := rfl
theorem cells_int {k : IntKind} {n : Int} : (.int k n : AV).cells = [.int k n] := rfl
theorem cell_int {k : IntKind} {n : Int} : (.int k n : AV).cell = true := rfl
theorem cells_str {x : ByteArray} : (.str x : AV).cells = [.str x] := rfl
theorem cell_str {x : ByteArray} : (.str x : AV).cell = true := rfl
theorem cells_ptr {b o : Nat} : (.ptr b o : AV).cells = [.ptr b o] := rfl
theorem cell_ptr {b o : Nat} : (.ptr b o : AV).cell = true := rfl
theorem cells_nilPtr  : (.nilPtr : AV).cells = [.nilPtr] := rfl
theorem cell_nilPtr  : (.nilPtr : AV).cell = true := rfl
theorem cells_slice {b o n c : Nat} {l : Bool} : (.slice b o n c l : AV).cells = [.slice b o n c l] := rfl
theorem cell_slice {b o n c : Nat} {l : Bool} : (.slice b o n c l : AV).cell = true := rfl
theorem cells_nilSlice  : (.nilSlice : AV).cells = [.nilSlice] := rfl
theorem cell_nilSlice  : (.nilSlice : AV).cell = true := rfl
theorem cells_tail {b o a : Nat} : (.tail b o a : AV).cells = [.tail b o a] := rfl
theorem cell_tail {b o a : Nat} : (.tail b o a : AV).cell = true := rfl
theorem cells_map {r : Nat} : (.map r : AV).cells = [.map r] := rfl
theorem cell_map {r : Nat} : (.map r : AV).cell = true := rfl
theorem cells_nilMap  : (.nilMap : AV).cells = [.nilMap] := rfl
theorem cell_nilMap  : (.nilMap : AV).cell = true := rfl
theorem cells_fn {f : Fn} {a c : List AV} : (.fn f a c : AV).cells = [.fn f a c] := rfl
theorem cell_fn {f : Fn} {a c : List AV} : (.fn f a c : AV).cell = true := rfl
theorem cells_yld {r : Nat} : (.yld r : AV).cells = [.yld r] := rfl
theorem cell_yld {r : Nat} : (.yld r : AV).cell = true := rfl
theorem cells_nilFn  : (.nilFn : AV).cells = [.nilFn] := rfl
theorem cell_nilFn  : (.nilFn : AV).cell = true := rfl
theorem cells_iface {t : TypeId} {v : AV} : (.iface t v : AV).cells = [.iface t v] := rfl
theorem cell_iface {t : TypeId} {v : AV} : (.iface t v : AV).cell = true := rfl
theorem cells_nilIface  : (.nilIface : AV).cells = [.nilIface] := rfl
theorem cell_nilIface  : (.nilIface : AV).cell = true := rfl
theorem cells_tup {l : List AV} : (.tup l : AV).cells = [.tup l] := rfl
theorem cells_agg {l : List AV} : (AV.agg l).cells = l := rfl
attribute [go_sem] cells_bool cell_bool cells_int cell_int cells_str cell_str cells_ptr cell_ptr cells_nilPtr cell_nilPtr cells_slice cell_slice cells_nilSlice cell_nilSlice cells_tail cell_tail cells_map cell_map cells_nilMap cell_nilMap cells_fn cell_fn cells_yld cell_yld cells_nilFn cell_nilFn cells_iface cell_iface cells_nilIface cell_nilIface cells_tup cells_agg
attribute [go_sem] St.put_put St.put_new St.put_new1 cellsEq1 cellsEq2 cellsEq3
attribute [go_sem] Wk_seq Wk_skip Wk_exit Wk_ret Wk_region Wk_drawn0 Wk_cond Wi_t Wi_f Wr_sq Wr_lp Wr_bl_exit Wr_bl Wr_bl_ret Wr_sq_exit Wr_sq_ret Wr_lp_exit Wr_lp_ret Wo_nil Wo_nil' Wo_move Wo_pick Wo_alloc Wo_box Wo_build Wo_buildSlice Wo_load1 Wo_loadN Wo_store Wo_nilCheck Wo_bin Wo_un Wo_convInt Wo_convSame Wo_convStr Wo_convBytes Wo_mkIface Wo_mkFunc Wo_mkMap Wo_mkSlice Wo_sliceSl Wo_sliceStr Wo_sliceArr Wo_fieldAddr Wo_field Wo_idxArr Wo_idx1 Wo_idxAgg Wo_idxStr Wo_lookup Wo_mapUpd Wo_extract Wo_append Wo_appendN Wo_copy Wo_len0 Wo_len1 Wo_len2 len1_nil len1_tail len1_slice len1_raw Wo_lenArr Wo_cap Wo_minmax Wo_clear Wo_clearMap Wo_delete Wo_call Wo_guard Wx_some Wg_tt Wg_ff Wg_tf Wg_ft Wg_undef Wc_fn Wr_fin Wr_fin' Wy_some Dr.push
attribute [go_sem] xop evOf evs evO putT Tr.get_set Tr.get_lf binA intBin unA eqA aggEq boolEq nilEq nilOf initT ressA resA oneA loadA storeA splice allCell St.get_put St.get_new St.next_put St.next_new newA fillA partA foldMM indexA looksOk lookOk lookAll wantedA same sames
attribute [go_sem] Nat.add_zero Nat.zero_add if_true if_false ite_true ite_false List.length_cons List.length_nil List.getElem?_cons_succ List.getElem?_cons_zero List.drop_succ_cons List.drop_zero List.take_succ_cons List.take_zero List.cons_append List.nil_append List.append_nil Bool.and_true Bool.true_and and_true true_and and_self Bool.not_true Bool.not_false Option.some.injEq beq_self_eq_true bne_self_eq_false decide_true decide_false List.reverse_cons List.reverse_nil Nat.beq_refl false_implies implies_true imp_false not_false_eq_true
/-- What lay lies as it lay. -/
structure Fr (s s' : St) : Prop where
  le : s.next ≤ s'.next
  get : ∀ b, b < s.next → s'.get b = s.get b
/-- What lay, but for one block, lies as it lay. -/
structure FrX (x : Nat) (s s' : St) : Prop where
  le : s.next ≤ s'.next
  get : ∀ b, b < s.next → b ≠ x → s'.get b = s.get b

theorem Fr.refl (s : St) : Fr s s := ⟨Nat.le_refl _, fun _ _ => rfl⟩
theorem Fr.trans {a b c : St} (h : Fr a b) (k : Fr b c) : Fr a c := ⟨Nat.le_trans h.le k.le, fun x hx => (k.get x (Nat.lt_of_lt_of_le hx h.le)).trans (h.get x hx)⟩
theorem Fr.new {a b : St} (h : Fr a b) (o : AObj) : Fr a (b.new o) := ⟨Nat.le_succ_of_le h.le, fun x hx => by rw [St.get_new, if_neg (by have := h.le; omega)]; exact h.get x hx⟩
theorem Fr.put {a b : St} (h : Fr a b) {x : Nat} (hx : a.next ≤ x) (o : AObj) : Fr a (b.put x o) := ⟨h.le, fun y hy => by rw [St.get_put, if_neg (by omega)]; exact h.get y hy⟩
theorem Fr.drop {a b : St} (h : Fr a b) {x : Nat} (hx : a.next ≤ x) : Fr a (b.drop x) := ⟨h.le, fun y hy => by rw [St.get_drop, if_neg (by omega)]; exact h.get y hy⟩
theorem Fr.x {a b : St} (h : Fr a b) (x : Nat) : FrX x a b := ⟨h.le, fun y hy _ => h.get y hy⟩
theorem FrX.refl (x : Nat) (s : St) : FrX x s s := ⟨Nat.le_refl _, fun _ _ _ => rfl⟩
theorem FrX.then {x : Nat} {a b c : St} (h : FrX x a b) (k : Fr b c) : FrX x a c := ⟨Nat.le_trans h.le k.le, fun y hy hn => (k.get y (Nat.lt_of_lt_of_le hy h.le)).trans (h.get y hy hn)⟩
theorem FrX.trans {x : Nat} {a b c : St} (h : FrX x a b) (k : FrX x b c) : FrX x a c := ⟨Nat.le_trans h.le k.le, fun y hy hn => (k.get y (Nat.lt_of_lt_of_le hy h.le) hn).trans (h.get y hy hn)⟩
theorem FrX.new {x : Nat} {a b : St} (h : FrX x a b) (o : AObj) : FrX x a (b.new o) := ⟨Nat.le_succ_of_le h.le, fun y hy hn => by rw [St.get_new, if_neg (by have := h.le; omega)]; exact h.get y hy hn⟩
theorem FrX.put {x : Nat} {a b : St} (h : FrX x a b) {z : Nat} (hx : z = x ∨ a.next ≤ z) (o : AObj) : FrX x a (b.put z o) := ⟨h.le, fun y hy hn => by rw [St.get_put, if_neg (by omega)]; exact h.get y hy hn⟩

theorem eq_next_f {b : Nat} {s : St} (h : b < s.next) : (b = s.next) = False := by simp; omega
theorem eq_next_f' {b : Nat} {s : St} (h : b < s.next) : (s.next = b) = False := by simp; omega
theorem eq_next_k {b k : Nat} {s : St} (h : b < s.next) : (b = s.next + k) = False := by simp; omega
theorem eq_next_k' {b k : Nat} {s : St} (h : b < s.next) : (s.next + k = b) = False := by simp; omega
end Go.Proofs.Yteffppdkofdmdaa.D
