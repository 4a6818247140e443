/- Scripts. What an op holds; whether two are the same.
Scripts. Whether two ops are the same: the program's answer.
Scripts. Whether two ops are the same: the document's answer.
Scripts. Whether ops are too great to be looked at.
Scripts. Which numbers can be written.
Scripts. Which ops can be written.
Scripts. Which scripts can be: the ops.
Scripts. Which scripts can be.
Scripts. The document's small tests. -/
import Derived.Test.YteiiblpnegjjlaaGreatZk
namespace Go.Proofs.YteiiblpnegjjlaaGreat.Lw
open D
set_option linter.unusedSimpArgs false
set_option linter.unusedVariables false
set_option maxRecDepth 10000

/-- The text of bytes. -/
def txt (L : List Nat) : ByteArray := ⟨(L.map UInt8.ofNat).toArray⟩
theorem bytesA_u8 : ∀ L : List Nat, bytesA (L.map u8) = some (L.map UInt8.ofNat)
  | [] => rfl
  | c :: L => by
    show (match bytesA (L.map u8) with | some l => some (UInt8.ofNat (c : Int).toNat :: l) | none => none) = _
    rw [bytesA_u8 L]
    simp
/-- What the text of a slice of bytes is. -/
def Tx (s : St) (v : AV) (L : List Nat) : Prop := ∀ s' : St, (∀ b o, s.get b = some o → s'.get b = some o) → ∀ (n : Nat) (ts : Tr AV), ts.get n = some v → xop (.convBytes (.t n)) (evOf ts) s' = some (.str (txt L), s')
theorem Tx.mono {s s' : St} {v : AV} {L : List Nat} (h : Tx s v L) (hn : ∀ b o, s.get b = some o → s'.get b = some o) : Tx s' v L := fun s2 h2 => h s2 fun b o hb => h2 b o (hn b o hb)
/-- What a slice of bytes gives to an append. -/
def Sr (s : St) (v : AV) (L : List Nat) : Prop := ∀ s' : St, (∀ b o, s.get b = some o → s'.get b = some o) → srcA s' 1 v = some (L.length, L.map u8)
theorem Sr.mono {s s' : St} {v : AV} {L : List Nat} (h : Sr s v L) (hn : ∀ b o, s.get b = some o → s'.get b = some o) : Sr s' v L := fun s2 h2 => h s2 fun b o hb => h2 b o (hn b o hb)
/-- An op. -/
structure Sop where
  cells : List AV
  kind : Int
  node : Int
  key : Int
  at_ : Int
  keys : List Int
  blk : List Nat
  e : Nat
  q : Nat
  mask : Nat
  keep : List Nat
  kv : AV
  wv : AV
structure SopOk (s : St) (x : Sop) : Prop where
  len : x.cells.length = 25
  cell : allCell x.cells = true
  c0 : x.cells[0]? = some (.int .i64 x.kind)
  c1 : x.cells[1]? = some (.int .i64 x.node)
  c2 : x.cells[2]? = some (.int .i64 x.key)
  c3 : x.cells[3]? = some x.kv
  blk : (x.cells.drop 4).take 16 = x.blk.map u8
  lab : (x.cells.drop 20).take 2 = [.int .u32 (x.e : Int), .int .u32 (x.q : Int)]
  c20 : x.cells[20]? = some (.int .u32 (x.e : Int))
  c21 : x.cells[21]? = some (.int .u32 (x.q : Int))
  c22 : x.cells[22]? = some (.int .i64 x.at_)
  c23 : x.cells[23]? = some (.int .u8 (x.mask : Int))
  c24 : x.cells[24]? = some x.wv
  blen : x.blk.length = 16
  blt : ∀ c ∈ x.blk, c < 256
  elt : x.e < 4294967296
  qlt : x.q < 4294967296
  mlt : x.mask < 256
  keys : Rw s x.kv (x.keys.map (AV.int .i64))
  klen : x.keys.length ≤ maxLen
  keep : Bs s x.wv x.keep
  wlen : x.keep.length ≤ maxLen
  txt : Tx s x.wv x.keep
  src : Sr s x.wv x.keep
  sm : sames x.cells x.cells = true

def tyB16 : Ty := .many [(.int .u8), (.int .u8), (.int .u8), (.int .u8), (.int .u8), (.int .u8), (.int .u8), (.int .u8), (.int .u8), (.int .u8), (.int .u8), (.int .u8), (.int .u8), (.int .u8), (.int .u8), (.int .u8)]
def tyLb : Ty := .many [.int .u32, .int .u32]
def tyOp : Ty := .many [.int .i64, .int .i64, .int .i64, .slice (.int .i64), tyB16, tyLb, .int .i64, .int .u8, .slice (.int .u8)]

theorem Rw.mono {s s' : St} {v : AV} {xs : List AV} (h : Rw s v xs) (hn : ∀ b o, s.get b = some o → s'.get b = some o) : Rw s' v xs where
  len := h.len
  at_ j hj := by
    obtain ⟨b, o, vs, lo, ro, z, h1, h2, h3⟩ := h.at_ j hj
    exact ⟨b, o, vs, lo, ro, z, h1, hn _ _ h2, h3⟩
  cell := h.cell
theorem SopOk.mono {s s' : St} {x : Sop} (h : SopOk s x) (hn : ∀ b o, s.get b = some o → s'.get b = some o) : SopOk s' x :=
  { h with keys := h.keys.mono hn, keep := h.keep.mono hn, txt := h.txt.mono hn, src := h.src.mono hn }

theorem nat_of {a : Int} (h : 0 ≤ a) : ∃ n : Nat, a = (n : Int) := ⟨a.toNat, by omega⟩

theorem ok_u8s {s : St} : ∀ {Ts : List Ty} {l : List AV}, (∀ T ∈ Ts, T = .int .u8) → OkAll s Ts l → ∃ L : List Nat, l = L.map u8 ∧ (∀ c ∈ L, c < 256) ∧ L.length = Ts.length
  | [], l, _, h => ⟨[], by rw [okAll_nil h]; rfl, by simp, rfl⟩
  | T :: Ts, l, hT, h => by
    obtain ⟨a, b, rfl, h1, h2⟩ := okAll_cons h
    have : T = .int .u8 := hT T (List.mem_cons_self ..)
    subst this
    obtain ⟨n, rfl, h3, h4⟩ := h1
    obtain ⟨m, rfl⟩ := nat_of h3
    obtain ⟨L, rfl, h5, h6⟩ := ok_u8s (fun T hT' => hT T (List.mem_cons_of_mem _ hT')) h2
    refine ⟨m :: L, rfl, ?_, by simp [h6]⟩
    intro c hc
    rcases List.mem_cons.1 hc with rfl | hc
    · have : IntKind.u8.max = 255 := by decide
      rw [this] at h4
      omega
    · exact h5 c hc
theorem max_u32 : IntKind.u32.max = 4294967295 := by decide
theorem max_u8 : IntKind.u8.max = 255 := by decide

theorem raw_bs (s : St) (a : Option Addr) : Bs s (.raw (.slice a 0 0)) [] := ⟨fun _ => rfl, by simp, fun j h => by simp at h, fun h => by simp at h, rfl, rfl⟩
theorem keep_of {s : St} {v : AV} (h : ArgOk s (.slice (.int .u8)) v) : ∃ L : List Nat, Bs s v L ∧ L.length ≤ maxLen := by
  rcases argOk_slice h with rfl | ⟨a, rfl⟩ | ⟨b, o, len, cap, vs, rfl, h1, h2, h3, h4, h5, h6⟩
  · exact ⟨[], ⟨fun _ => rfl, by simp, fun j h => by simp at h, fun h => by simp at h, rfl, rfl⟩, by simp⟩
  · exact ⟨[], raw_bs s a, by simp⟩
  · have key : ∀ n, n ≤ len → ∃ L : List Nat, L.length = n ∧ (vs.drop o).take n = L.map u8 ∧ ∀ c ∈ L, c < 256 := by
      intro n
      induction n with
      | zero => intro _; exact ⟨[], rfl, by simp, by simp⟩
      | succ n ih =>
        intro hn
        obtain ⟨L, hl, hL, hc⟩ := ih (by omega)
        obtain ⟨k, hk, k1, k2⟩ := h6 n (by omega)
        obtain ⟨m, rfl⟩ := nat_of k1
        rw [max_u8] at k2
        have hk' : (vs.drop (o + n)).take 1 = [.int .u8 (m : Int)] := by simpa [Ty.size] using hk
        refine ⟨L ++ [m], by simp [hl], ?_, ?_⟩
        · rw [List.take_add, hL, List.drop_drop, hk']
          simp [u8]
        · intro c hcm
          rcases List.mem_append.1 hcm with h | h
          · exact hc c h
          · rw [List.mem_singleton.1 h]; omega
    obtain ⟨L, hl, hL, hc⟩ := key len (Nat.le_refl _)
    have hsz : 0 < cap → o + cap ≤ vs.length := fun h0 => by simpa [Ty.size] using h5.2
    subst hl
    refine ⟨L, ⟨fun _ => rfl, hc, fun j hj => ⟨b, o, vs, false, true, 0, fun s' => by rw [idx1_slice hj, Nat.mul_one], h3, ?_⟩, fun h0 => ⟨b, o, cap, false, rfl, ?_⟩, rfl, rfl⟩, by omega⟩
    · have := congrArg (fun l => l[j]?) hL
      simpa [List.getElem?_take_of_lt hj, List.getElem?_drop, List.getElem?_eq_getElem hj] using this
    · unfold loadA
      rw [h3]
      simp only [hL]
      rw [if_pos (by have := hsz (by omega); omega)]

theorem keep_txt {s : St} {v : AV} (h : ArgOk s (.slice (.int .u8)) v) {L : List Nat} (hB : Bs s v L) : Tx s v L := by
  intro s' hn n ts hts
  have hev : evOf ts (.t n) = some v := hts
  have hB' := hB.mono hn
  show (match evOf ts (.t n) with
    | some .nilSlice => some (AV.str .empty, s')
    | some (.tail ..) => some (.str .empty, s')
    | some (.raw (.slice _ 0 _)) => some (.str .empty, s')
    | some (.slice _ _ 0 _ _) => some (.str .empty, s')
    | some (.slice b o len _ _) => match loadA s' b o len with
      | some l => match bytesA l with
        | some bs => some (.str ⟨bs.toArray⟩, s')
        | none => none
      | none => none
    | _ => none) = _
  rw [hev]
  rcases argOk_slice h with rfl | ⟨a, rfl⟩ | ⟨b, o, len, cap, vs, rfl, h1, h2, h3, h4, h5, h6⟩
  · have := hB.len s
    cases L with
    | nil => rfl
    | cons c r => simp [len1] at this; omega
  · have := hB.len s
    cases L with
    | nil => rfl
    | cons c r => simp [len1] at this; omega
  · have hl := hB.len s
    have hl2 : len = L.length := by simp [len1] at hl; omega
    subst hl2
    cases L with
    | nil => rfl
    | cons c r =>
      obtain ⟨b', o', c', lo', e, hld⟩ := hB'.src (by simp)
      cases e
      show (match loadA s' b o (c :: r).length with | some l => (match bytesA l with | some bs => some (AV.str ⟨bs.toArray⟩, s') | none => none) | none => none) = _
      rw [hld]
      simp only [bytesA_u8]
      rfl
theorem keep_src {s : St} {v : AV} (h : ArgOk s (.slice (.int .u8)) v) {L : List Nat} (hB : Bs s v L) : Sr s v L := by
  intro s' hn
  have hB' := hB.mono hn
  have hl := hB.len s
  rcases argOk_slice h with rfl | ⟨a, rfl⟩ | ⟨b, o, len, cap, vs, rfl, h1, h2, h3, h4, h5, h6⟩
  · cases L with
    | nil => rfl
    | cons c r => simp [len1] at hl; omega
  · cases L with
    | nil => rfl
    | cons c r => simp [len1] at hl; omega
  · have hl2 : len = L.length := by simp [len1] at hl; omega
    subst hl2
    have key : loadA s' b o (L.length * 1) = some (L.map u8) := by
      rw [Nat.mul_one]
      cases L with
      | nil =>
        unfold loadA
        rw [hn _ _ h3]
        have h7 : o + cap * 1 ≤ vs.length := by simpa [Ty.size] using h5.2
        simp
        omega
      | cons c r =>
        obtain ⟨b', o', c', lo', e, hld⟩ := hB'.src (by simp)
        cases e
        exact hld
    show (match loadA s' b o (L.length * 1) with | some l => some (L.length, l) | none => none) = _
    rw [key]
theorem keys_of {s : St} {v : AV} (h : ArgOk s (.slice (.int .i64)) v) : ∃ L : List Int, Rw s v (L.map (AV.int .i64)) ∧ L.length ≤ maxLen := by
  obtain ⟨xs, b, o, hA, hx⟩ := acc_of_ok h
  obtain ⟨L, rfl, _⟩ := list_read (f := fun a : Int => [AV.int .i64 a]) (Q := fun _ => True) fun x hm => by
    obtain ⟨n, rfl, _⟩ := hx x hm
    exact ⟨n, rfl, trivial⟩
  have hm := hA.max
  rw [List.length_map] at hm
  refine ⟨L, Acc.rw (b := b) (o := o) ?_, hm⟩
  rw [List.map_map]
  exact hA

theorem sames_app : ∀ {a b : List AV}, sames a a = true → sames b b = true → sames (a ++ b) (a ++ b) = true
  | [], _, _, h => h
  | x :: a, b, h, k => by
    simp only [sames, Bool.and_eq_true] at h
    simp only [List.cons_append, sames, Bool.and_eq_true]
    exact ⟨h.1, sames_app h.2 k⟩
mutual
theorem ok_same {s : St} : ∀ {T : Ty} {l : List AV}, Ok s T l → sames l l = true
  | .bool, _, ⟨_, h⟩ => by subst h; simp [sames, same]
  | .int _, _, ⟨_, h, _⟩ => by subst h; simp [sames, same]
  | .str, _, ⟨_, h, _⟩ => by subst h; simp [sames, same]
  | .slice e, l, h => by
    rcases h with h | ⟨a, h⟩ | ⟨b, o, len, cap, vs, h, _⟩ <;> (subst h; simp [sames, same, sameV])
  | .many _, _, h => okAll_same h
theorem okAll_same {s : St} : ∀ {Ts : List Ty} {l : List AV}, OkAll s Ts l → sames l l = true
  | [], _, h => by cases h; rfl
  | _ :: _, _, ⟨_, _, h, h1, h2⟩ => by subst h; exact sames_app (ok_same h1) (okAll_same h2)
end
theorem ok_op {s : St} {x : List AV} (h : Ok s tyOp x) : ∃ m : Sop, x = m.cells ∧ SopOk s m := by
  have hl := ok_length h
  have hc := ok_cell h
  have hs := ok_same h
  obtain ⟨_, _, rfl, ⟨k, rfl, _⟩, _, _, rfl, ⟨n, rfl, _⟩, _, _, rfl, ⟨y, rfl, _⟩, _, _, rfl, hk, l16, _, rfl, hb, _, _, rfl, ⟨_, _, rfl, ⟨e, rfl, he1, he2⟩, ⟨_, _, rfl, ⟨q, rfl, hq1, hq2⟩, rfl⟩⟩, _, _, rfl, ⟨t, rfl, _⟩, _, _, rfl, ⟨m, rfl, hm1, hm2⟩, _, _, rfl, hw, rfl⟩ := h
  obtain ⟨kv, rfl, hk'⟩ := ok_slice1 hk
  obtain ⟨wv, rfl, hw'⟩ := ok_slice1 hw
  obtain ⟨ks, hR, hkl⟩ := keys_of hk'
  obtain ⟨ws, hB, hwl⟩ := keep_of hw'
  obtain ⟨bs, rfl, hbl, hbn⟩ := ok_u8s (by simp) hb
  obtain ⟨e, rfl⟩ := nat_of he1
  obtain ⟨q, rfl⟩ := nat_of hq1
  obtain ⟨m, rfl⟩ := nat_of hm1
  rw [max_u32] at he2 hq2
  rw [max_u8] at hm2
  have hbn' : bs.length = 16 := hbn
  have e3 : e < 4294967296 := by omega
  have q3 : q < 4294967296 := by omega
  have m3 : m < 256 := by omega
  refine ⟨⟨_, k, n, y, t, ks, bs, e, q, m, ws, kv, wv⟩, rfl, ⟨hl, hc, rfl, rfl, rfl, rfl, ?_, ?_, ?_, ?_, ?_, ?_, ?_, hbn', hbl, e3, q3, m3, hR, hkl, hB, hwl, keep_txt hw' hB, keep_src hw' hB, hs⟩⟩
  all_goals
    match bs, hbn' with
    | [a0, a1, a2, a3, a4, a5, a6, a7, a8, a9, a10, a11, a12, a13, a14, a15], _ => rfl

/-- A row of ops. -/
structure RdS (s : St) (v : AV) (l : List Sop) : Prop where
  len : ∀ s', len1 (some v) s' = some (.int .i64 (l.length : Nat), s')
  at_ : ∀ j (h : j < l.length), ∃ b o vs lo ro z, (∀ s', idx1 25 (some v) (some (.int .i64 (j : Int))) s' = some (.ptr b (o + j * 25), s')) ∧ s.get b = some (.cells vs lo ro z) ∧ b < s.next ∧ o + (j * 25 + 25) ≤ vs.length ∧ (vs.drop (o + j * 25)).take 25 = l[j].cells
  cells : v.cells = [v]
  cell : v.cell = true
theorem RdS.mono {s s' : St} {v : AV} {l : List Sop} (h : RdS s v l) (f : Fr s s') : RdS s' v l where
  len := h.len
  at_ j hj := by
    obtain ⟨b, o, vs, lo, ro, z, h1, h2, h3, h4⟩ := h.at_ j hj
    exact ⟨b, o, vs, lo, ro, z, h1, (f.get b h3).trans h2, Nat.lt_of_lt_of_le h3 f.le, h4⟩
  cells := h.cells
  cell := h.cell
theorem Acc.rds {s : St} {v : AV} {l : List Sop} {b o : Nat} (h : Acc s v 25 (l.map Sop.cells) b o) : RdS s v l where
  len := by simpa using h.len
  at_ j hj := by
    have hj' : j < (l.map Sop.cells).length := by rw [List.length_map]; exact hj
    obtain ⟨vs, h1, h2, h3⟩ := h.at_ j hj'
    rw [List.getElem_map] at h3
    exact ⟨b, o, vs, _, _, _, fun s' => h.idx s' j hj', h1, h.lt (by omega), h2, h3⟩
  cells := h.cells
  cell := h.cell
theorem ops_of {s : St} {v : AV} (h : ArgOk s (.slice tyOp) v) : ∃ (l : List Sop) (b o : Nat), Acc s v 25 (l.map Sop.cells) b o ∧ ∀ a ∈ l, SopOk s a := by
  obtain ⟨xs, b, o, hA, hx⟩ := acc_of_ok h
  obtain ⟨hs, rfl, hq⟩ := list_read (f := Sop.cells) (Q := SopOk s) fun x hm => ok_op (hx x hm)
  exact ⟨hs, b, o, hA, hq⟩
end Go.Proofs.YteiiblpnegjjlaaGreat.Lw
namespace Go.Proofs.YteiiblpnegjjlaaGreat.Lw
open D
set_option linter.unusedSimpArgs false
set_option linter.unusedVariables false
set_option maxRecDepth 10000

/-- The same op. -/
def sameOp (x y : Sop) : Bool :=
  x.kind == y.kind && x.node == y.node && x.key == y.key && x.at_ == y.at_ && x.mask == y.mask && x.blk == y.blk && (x.e == y.e && x.q == y.q) && x.keys == y.keys && x.keep == y.keep

/-- All that lies has a number that is given out. -/
abbrev Dom (s : St) : Prop := ∀ b o, s.get b = some o → b < s.next
theorem cells_u8 : ∀ (n : Nat) (l m : List Nat), l.length = n → m.length = n → cellsEq (List.replicate n 1) (l.map u8) (m.map u8) = some (l == m)
  | 0, [], [], _, _ => rfl
  | n + 1, a :: l, b :: m, hl, hm => by
    have h1 := cells_u8 n l m (by simpa using hl) (by simpa using hm)
    rw [List.replicate_succ, List.map_cons, List.map_cons]
    show (match leafEq 1 (u8 a) (u8 b) with | some true => cellsEq (List.replicate n 1) (l.map u8) (m.map u8) | some false => (if (l.map u8).length = (List.replicate n 1).length ∧ (m.map u8).length = (List.replicate n 1).length then some false else none) | none => none) = _
    have h2 : leafEq 1 (u8 a) (u8 b) = some (a == b) := by
      show (if IntKind.u8 = IntKind.u8 then some ((a : Int) == (b : Int)) else none) = _
      rw [if_pos rfl]
      congr 1
      rw [Bool.eq_iff_iff]
      simp
      omega
    rw [h2]
    cases hab : (a == b) with
    | true =>
      dsimp only
      rw [h1]
      simp [List.cons_beq_cons, hab]
    | false =>
      dsimp only
      rw [if_pos (by simp at hl hm; simp [hl, hm])]
      simp [List.cons_beq_cons, hab]
  | 0, _ :: _, _, hl, _ => by simp at hl
  | 0, [], _ :: _, _, hm => by simp at hm
  | _ + 1, [], _, hl, _ => by simp at hl
  | _ + 1, _ :: _, [], _, hm => by simp at hm
theorem eqA_blk {l m : List Nat} (hl : l.length = 16) (hm : m.length = 16) : eqA (.cells [1, 1, 1, 1, 1, 1, 1, 1, 1, 1, 1, 1, 1, 1, 1, 1]) (.agg (l.map u8)) (.agg (m.map u8)) = some (l == m) :=
  cells_u8 16 l m hl hm
theorem eqA_lab (a b c d : Nat) : eqA (.cells [1, 1]) (.agg [.int .u32 (a : Int), .int .u32 (b : Int)]) (.agg [.int .u32 (c : Int), .int .u32 (d : Int)]) = some (a == c && b == d) := by
  have h (x y : Nat) : leafEq 1 (.int .u32 (x : Int)) (.int .u32 (y : Int)) = some (x == y) := by
    show (if IntKind.u32 = IntKind.u32 then some ((x : Int) == (y : Int)) else none) = _
    rw [if_pos rfl]
    congr 1
    rw [Bool.eq_iff_iff]
    simp
    omega
  show cellsEq [1, 1] _ _ = _
  simp only [cellsEq, h]
  cases a == c <;> cases b == d <;> simp

theorem Same_run {x y : Sop} {s : St} (hx : SopOk s x) (hy : SopOk s y) (hd : ∀ b o, s.get b = some o → b < s.next) (hkl : x.keys.length ≤ 1000) (hwl : x.keep.length ≤ 1000) :
    Wf mm 12 [.agg x.cells, .agg y.cells] s fun v s' => v = .bool (sameOp x y) ∧ Fr s s' ∧ Dom s' := by
  refine Wf_enter ft12 (sm (by decide)) (by rfl) ?_
  have ft : (false == true) = false := rfl
  have tf : (true == false) = false := rfl
  have hn : ∀ b o, s.get b = some o → ((s.new (.cells x.cells false false 0)).new (.cells y.cells false false 0)).get b = some o := fun b o h => keeps_new (dom_new hd _) _ b o (keeps_new hd _ b o h)
  have eqI := fun (s' : St) (h : ∀ b o, s.get b = some o → s'.get b = some o) => EqI_run (hx.keys.mono h) (hy.keys.mono h) (by omega)
  have eqB := fun (s' : St) (h : ∀ b o, s.get b = some o → s'.get b = some o) => EqB_run (hx.keep.rw.mono h) (hy.keep.rw.mono h) (by omega)
  have eb : cellsEq [1, 1, 1, 1, 1, 1, 1, 1, 1, 1, 1, 1, 1, 1, 1, 1] (x.blk.map u8) (y.blk.map u8) = some (x.blk == y.blk) := eqA_blk hx.blen hy.blen
  have el : cellsEq [1, 1] [.int .u32 (x.e : Int), .int .u32 (x.q : Int)] [.int .u32 (y.e : Int), .int .u32 (y.q : Int)] = some (x.e == y.e && x.q == y.q) := eqA_lab x.e x.q y.e y.q
  have dd : Dom ((s.new (.cells x.cells false false 0)).new (.cells y.cells false false 0)) := dom_new (dom_new hd _) _
  have f0 : Fr s ((s.new (.cells x.cells false false 0)).new (.cells y.cells false false 0)) := by (repeat (first | exact FrX.refl _ _ | exact Fr.refl _ | assumption | exact Fr.x (by assumption) _ | refine FrX.put ?_ (.inl rfl) _ | refine FrX.put ?_ (.inr (by first | omega | (simp; done) | (simp; omega))) _ | refine FrX.new ?_ _ | refine Fr.put ?_ (by first | omega | (simp; done) | (simp; omega)) _ | refine Fr.new ?_ _ | refine FrX.then ?_ (by assumption) | refine Fr.trans ?_ (by assumption)))
  have hm : ((x.mask : Int) == (y.mask : Int)) = (x.mask == y.mask) := by rw [Bool.eq_iff_iff]; simp; omega
  cases c1 : (x.kind == y.kind)
  · simp -implicitDefEqProofs only [go_sem, Wk_block, Wk_drawnC, reduceCtorEq, Nat.reduceEqDiff, Nat.reduceAdd, Nat.reduceLeDiff, Nat.reduceLT, Nat.reduceMul, Nat.reduceSub, ↓reduceIte, Int.reduceLT, Int.reduceLE, Int.reduceNeg, Int.reduceAdd, Int.reduceEq, Nat.reduceBneDiff, Nat.reduceBEq, Int.reduceToNat, Int.reduceMul, Int.reduceSub, Int.reduceBEq, Int.reduceBNe, Int.cast_ofNat_Int, Int.toNat_natCast_add_one, Nat.add_left_cancel_iff, Nat.left_eq_add, Nat.add_eq_left, Int.toNat_natCast, Nat.add_assoc, Int.ofNat_lt, Int.ofNat_le, Nat.lt_add_one_of_lt, Nat.lt_add_one, Nat.lt_add_right, Nat.lt_add_right_iff_pos, Nat.add_lt_add_iff_left, fd12, hx.len, hy.len, hx.c0, hy.c0, hx.c1, hy.c1, hx.c2, hy.c2, hx.c3, hy.c3, hx.blk, hy.blk, hx.lab, hy.lab, hx.c22, hy.c22, hx.c23, hy.c23, hx.c24, hy.c24, eb, el, ft, tf, Wl_eq (eqI _ hn), Wl_eq (eqB _ hn), c1]
    exact ⟨by simp [sameOp, ← hm, c1], f0, dd⟩
  cases c2 : (x.node == y.node)
  · simp -implicitDefEqProofs only [go_sem, Wk_block, Wk_drawnC, reduceCtorEq, Nat.reduceEqDiff, Nat.reduceAdd, Nat.reduceLeDiff, Nat.reduceLT, Nat.reduceMul, Nat.reduceSub, ↓reduceIte, Int.reduceLT, Int.reduceLE, Int.reduceNeg, Int.reduceAdd, Int.reduceEq, Nat.reduceBneDiff, Nat.reduceBEq, Int.reduceToNat, Int.reduceMul, Int.reduceSub, Int.reduceBEq, Int.reduceBNe, Int.cast_ofNat_Int, Int.toNat_natCast_add_one, Nat.add_left_cancel_iff, Nat.left_eq_add, Nat.add_eq_left, Int.toNat_natCast, Nat.add_assoc, Int.ofNat_lt, Int.ofNat_le, Nat.lt_add_one_of_lt, Nat.lt_add_one, Nat.lt_add_right, Nat.lt_add_right_iff_pos, Nat.add_lt_add_iff_left, fd12, hx.len, hy.len, hx.c0, hy.c0, hx.c1, hy.c1, hx.c2, hy.c2, hx.c3, hy.c3, hx.blk, hy.blk, hx.lab, hy.lab, hx.c22, hy.c22, hx.c23, hy.c23, hx.c24, hy.c24, eb, el, ft, tf, Wl_eq (eqI _ hn), Wl_eq (eqB _ hn), c1, c2]
    exact ⟨by simp [sameOp, ← hm, c1, c2], f0, dd⟩
  cases c3 : (x.key == y.key)
  · simp -implicitDefEqProofs only [go_sem, Wk_block, Wk_drawnC, reduceCtorEq, Nat.reduceEqDiff, Nat.reduceAdd, Nat.reduceLeDiff, Nat.reduceLT, Nat.reduceMul, Nat.reduceSub, ↓reduceIte, Int.reduceLT, Int.reduceLE, Int.reduceNeg, Int.reduceAdd, Int.reduceEq, Nat.reduceBneDiff, Nat.reduceBEq, Int.reduceToNat, Int.reduceMul, Int.reduceSub, Int.reduceBEq, Int.reduceBNe, Int.cast_ofNat_Int, Int.toNat_natCast_add_one, Nat.add_left_cancel_iff, Nat.left_eq_add, Nat.add_eq_left, Int.toNat_natCast, Nat.add_assoc, Int.ofNat_lt, Int.ofNat_le, Nat.lt_add_one_of_lt, Nat.lt_add_one, Nat.lt_add_right, Nat.lt_add_right_iff_pos, Nat.add_lt_add_iff_left, fd12, hx.len, hy.len, hx.c0, hy.c0, hx.c1, hy.c1, hx.c2, hy.c2, hx.c3, hy.c3, hx.blk, hy.blk, hx.lab, hy.lab, hx.c22, hy.c22, hx.c23, hy.c23, hx.c24, hy.c24, eb, el, ft, tf, Wl_eq (eqI _ hn), Wl_eq (eqB _ hn), c1, c2, c3]
    exact ⟨by simp [sameOp, ← hm, c1, c2, c3], f0, dd⟩
  cases c4 : (x.at_ == y.at_)
  · simp -implicitDefEqProofs only [go_sem, Wk_block, Wk_drawnC, reduceCtorEq, Nat.reduceEqDiff, Nat.reduceAdd, Nat.reduceLeDiff, Nat.reduceLT, Nat.reduceMul, Nat.reduceSub, ↓reduceIte, Int.reduceLT, Int.reduceLE, Int.reduceNeg, Int.reduceAdd, Int.reduceEq, Nat.reduceBneDiff, Nat.reduceBEq, Int.reduceToNat, Int.reduceMul, Int.reduceSub, Int.reduceBEq, Int.reduceBNe, Int.cast_ofNat_Int, Int.toNat_natCast_add_one, Nat.add_left_cancel_iff, Nat.left_eq_add, Nat.add_eq_left, Int.toNat_natCast, Nat.add_assoc, Int.ofNat_lt, Int.ofNat_le, Nat.lt_add_one_of_lt, Nat.lt_add_one, Nat.lt_add_right, Nat.lt_add_right_iff_pos, Nat.add_lt_add_iff_left, fd12, hx.len, hy.len, hx.c0, hy.c0, hx.c1, hy.c1, hx.c2, hy.c2, hx.c3, hy.c3, hx.blk, hy.blk, hx.lab, hy.lab, hx.c22, hy.c22, hx.c23, hy.c23, hx.c24, hy.c24, eb, el, ft, tf, Wl_eq (eqI _ hn), Wl_eq (eqB _ hn), c1, c2, c3, c4]
    exact ⟨by simp [sameOp, ← hm, c1, c2, c3, c4], f0, dd⟩
  cases c5 : (((x.mask : Int) == (y.mask : Int)))
  · simp -implicitDefEqProofs only [go_sem, Wk_block, Wk_drawnC, reduceCtorEq, Nat.reduceEqDiff, Nat.reduceAdd, Nat.reduceLeDiff, Nat.reduceLT, Nat.reduceMul, Nat.reduceSub, ↓reduceIte, Int.reduceLT, Int.reduceLE, Int.reduceNeg, Int.reduceAdd, Int.reduceEq, Nat.reduceBneDiff, Nat.reduceBEq, Int.reduceToNat, Int.reduceMul, Int.reduceSub, Int.reduceBEq, Int.reduceBNe, Int.cast_ofNat_Int, Int.toNat_natCast_add_one, Nat.add_left_cancel_iff, Nat.left_eq_add, Nat.add_eq_left, Int.toNat_natCast, Nat.add_assoc, Int.ofNat_lt, Int.ofNat_le, Nat.lt_add_one_of_lt, Nat.lt_add_one, Nat.lt_add_right, Nat.lt_add_right_iff_pos, Nat.add_lt_add_iff_left, fd12, hx.len, hy.len, hx.c0, hy.c0, hx.c1, hy.c1, hx.c2, hy.c2, hx.c3, hy.c3, hx.blk, hy.blk, hx.lab, hy.lab, hx.c22, hy.c22, hx.c23, hy.c23, hx.c24, hy.c24, eb, el, ft, tf, Wl_eq (eqI _ hn), Wl_eq (eqB _ hn), c1, c2, c3, c4, c5]
    exact ⟨by simp [sameOp, ← hm, c1, c2, c3, c4, c5], f0, dd⟩
  cases c6 : (x.blk == y.blk)
  · simp -implicitDefEqProofs only [go_sem, Wk_block, Wk_drawnC, reduceCtorEq, Nat.reduceEqDiff, Nat.reduceAdd, Nat.reduceLeDiff, Nat.reduceLT, Nat.reduceMul, Nat.reduceSub, ↓reduceIte, Int.reduceLT, Int.reduceLE, Int.reduceNeg, Int.reduceAdd, Int.reduceEq, Nat.reduceBneDiff, Nat.reduceBEq, Int.reduceToNat, Int.reduceMul, Int.reduceSub, Int.reduceBEq, Int.reduceBNe, Int.cast_ofNat_Int, Int.toNat_natCast_add_one, Nat.add_left_cancel_iff, Nat.left_eq_add, Nat.add_eq_left, Int.toNat_natCast, Nat.add_assoc, Int.ofNat_lt, Int.ofNat_le, Nat.lt_add_one_of_lt, Nat.lt_add_one, Nat.lt_add_right, Nat.lt_add_right_iff_pos, Nat.add_lt_add_iff_left, fd12, hx.len, hy.len, hx.c0, hy.c0, hx.c1, hy.c1, hx.c2, hy.c2, hx.c3, hy.c3, hx.blk, hy.blk, hx.lab, hy.lab, hx.c22, hy.c22, hx.c23, hy.c23, hx.c24, hy.c24, eb, el, ft, tf, Wl_eq (eqI _ hn), Wl_eq (eqB _ hn), c1, c2, c3, c4, c5, c6]
    exact ⟨by simp [sameOp, ← hm, c1, c2, c3, c4, c5, c6], f0, dd⟩
  cases c7 : ((x.e == y.e && x.q == y.q))
  · simp -implicitDefEqProofs only [go_sem, Wk_block, Wk_drawnC, reduceCtorEq, Nat.reduceEqDiff, Nat.reduceAdd, Nat.reduceLeDiff, Nat.reduceLT, Nat.reduceMul, Nat.reduceSub, ↓reduceIte, Int.reduceLT, Int.reduceLE, Int.reduceNeg, Int.reduceAdd, Int.reduceEq, Nat.reduceBneDiff, Nat.reduceBEq, Int.reduceToNat, Int.reduceMul, Int.reduceSub, Int.reduceBEq, Int.reduceBNe, Int.cast_ofNat_Int, Int.toNat_natCast_add_one, Nat.add_left_cancel_iff, Nat.left_eq_add, Nat.add_eq_left, Int.toNat_natCast, Nat.add_assoc, Int.ofNat_lt, Int.ofNat_le, Nat.lt_add_one_of_lt, Nat.lt_add_one, Nat.lt_add_right, Nat.lt_add_right_iff_pos, Nat.add_lt_add_iff_left, fd12, hx.len, hy.len, hx.c0, hy.c0, hx.c1, hy.c1, hx.c2, hy.c2, hx.c3, hy.c3, hx.blk, hy.blk, hx.lab, hy.lab, hx.c22, hy.c22, hx.c23, hy.c23, hx.c24, hy.c24, eb, el, ft, tf, Wl_eq (eqI _ hn), Wl_eq (eqB _ hn), c1, c2, c3, c4, c5, c6, c7]
    exact ⟨by simp [sameOp, ← hm, c1, c2, c3, c4, c5, c6, c7], f0, dd⟩
  cases c8 : (x.keys == y.keys)
  · simp -implicitDefEqProofs only [go_sem, Wk_block, Wk_drawnC, reduceCtorEq, Nat.reduceEqDiff, Nat.reduceAdd, Nat.reduceLeDiff, Nat.reduceLT, Nat.reduceMul, Nat.reduceSub, ↓reduceIte, Int.reduceLT, Int.reduceLE, Int.reduceNeg, Int.reduceAdd, Int.reduceEq, Nat.reduceBneDiff, Nat.reduceBEq, Int.reduceToNat, Int.reduceMul, Int.reduceSub, Int.reduceBEq, Int.reduceBNe, Int.cast_ofNat_Int, Int.toNat_natCast_add_one, Nat.add_left_cancel_iff, Nat.left_eq_add, Nat.add_eq_left, Int.toNat_natCast, Nat.add_assoc, Int.ofNat_lt, Int.ofNat_le, Nat.lt_add_one_of_lt, Nat.lt_add_one, Nat.lt_add_right, Nat.lt_add_right_iff_pos, Nat.add_lt_add_iff_left, fd12, hx.len, hy.len, hx.c0, hy.c0, hx.c1, hy.c1, hx.c2, hy.c2, hx.c3, hy.c3, hx.blk, hy.blk, hx.lab, hy.lab, hx.c22, hy.c22, hx.c23, hy.c23, hx.c24, hy.c24, eb, el, ft, tf, Wl_eq (eqI _ hn), Wl_eq (eqB _ hn), c1, c2, c3, c4, c5, c6, c7, c8]
    exact ⟨by simp [sameOp, ← hm, c1, c2, c3, c4, c5, c6, c7, c8], f0, dd⟩
  simp -implicitDefEqProofs only [go_sem, Wk_block, Wk_drawnC, reduceCtorEq, Nat.reduceEqDiff, Nat.reduceAdd, Nat.reduceLeDiff, Nat.reduceLT, Nat.reduceMul, Nat.reduceSub, ↓reduceIte, Int.reduceLT, Int.reduceLE, Int.reduceNeg, Int.reduceAdd, Int.reduceEq, Nat.reduceBneDiff, Nat.reduceBEq, Int.reduceToNat, Int.reduceMul, Int.reduceSub, Int.reduceBEq, Int.reduceBNe, Int.cast_ofNat_Int, Int.toNat_natCast_add_one, Nat.add_left_cancel_iff, Nat.left_eq_add, Nat.add_eq_left, Int.toNat_natCast, Nat.add_assoc, Int.ofNat_lt, Int.ofNat_le, Nat.lt_add_one_of_lt, Nat.lt_add_one, Nat.lt_add_right, Nat.lt_add_right_iff_pos, Nat.add_lt_add_iff_left, fd12, hx.len, hy.len, hx.c0, hy.c0, hx.c1, hy.c1, hx.c2, hy.c2, hx.c3, hy.c3, hx.blk, hy.blk, hx.lab, hy.lab, hx.c22, hy.c22, hx.c23, hy.c23, hx.c24, hy.c24, eb, el, ft, tf, Wl_eq (eqI _ hn), Wl_eq (eqB _ hn), c1, c2, c3, c4, c5, c6, c7, c8]
  exact ⟨by simp [sameOp, ← hm, c1, c2, c3, c4, c5, c6, c7, c8], f0, dd⟩
end Go.Proofs.YteiiblpnegjjlaaGreat.Lw
namespace Go.Proofs.YteiiblpnegjjlaaGreat.Lw
open D
set_option linter.unusedSimpArgs false
set_option linter.unusedVariables false
set_option maxRecDepth 10000

theorem txt_eq {L M : List Nat} (hL : ∀ c ∈ L, c < 256) (hM : ∀ c ∈ M, c < 256) : ((txt L).toList == (txt M).toList) = (L == M) := by
  have hd : ∀ L : List Nat, (txt L).toList = L.map UInt8.ofNat := fun L => by
    simp [txt]
  rw [hd, hd, Bool.eq_iff_iff, beq_iff_eq, beq_iff_eq]
  refine ⟨fun h => ?_, fun h => by rw [h]⟩
  have h2 := congrArg (List.map UInt8.toNat) h
  rw [List.map_map, List.map_map] at h2
  have key : ∀ L : List Nat, (∀ c ∈ L, c < 256) → L.map (UInt8.toNat ∘ UInt8.ofNat) = L := fun L hL => by
    have : L.map (UInt8.toNat ∘ UInt8.ofNat) = L.map id := List.map_congr_left fun c hc => by
      show (UInt8.ofNat c).toNat = c
      rw [UInt8.toNat_ofNat']
      exact Nat.mod_eq_of_lt (hL c hc)
    rw [this, List.map_id]
  rwa [key L hL, key M hM] at h2

theorem refSame_run {x y : Sop} {s : St} (hx : SopOk s x) (hy : SopOk s y) (hd : ∀ b o, s.get b = some o → b < s.next) (hkl : x.keys.length ≤ 1000) (hwl : x.keep.length ≤ 1000) :
    Wf mm 13 [.agg x.cells, .agg y.cells] s fun v s' => v = .bool (sameOp x y) ∧ Fr s s' ∧ Dom s' := by
  refine Wf_enter ft13 (sm (by decide)) (by rfl) ?_
  have ft : (false == true) = false := rfl
  have tf : (true == false) = false := rfl
  have hn : ∀ b o, s.get b = some o → ((s.new (.cells x.cells false false 0)).new (.cells y.cells false false 0)).get b = some o := fun b o h => keeps_new (dom_new hd _) _ b o (keeps_new hd _ b o h)
  have eb : cellsEq [1, 1, 1, 1, 1, 1, 1, 1, 1, 1, 1, 1, 1, 1, 1, 1] (x.blk.map u8) (y.blk.map u8) = some (x.blk == y.blk) := eqA_blk hx.blen hy.blen
  have el : cellsEq [1, 1] [.int .u32 (x.e : Int), .int .u32 (x.q : Int)] [.int .u32 (y.e : Int), .int .u32 (y.q : Int)] = some (x.e == y.e && x.q == y.q) := eqA_lab x.e x.q y.e y.q
  have dd : Dom ((s.new (.cells x.cells false false 0)).new (.cells y.cells false false 0)) := dom_new (dom_new hd _) _
  have f0 : Fr s ((s.new (.cells x.cells false false 0)).new (.cells y.cells false false 0)) := by (repeat (first | exact FrX.refl _ _ | exact Fr.refl _ | assumption | exact Fr.x (by assumption) _ | refine FrX.put ?_ (.inl rfl) _ | refine FrX.put ?_ (.inr (by first | omega | (simp; done) | (simp; omega))) _ | refine FrX.new ?_ _ | refine Fr.put ?_ (by first | omega | (simp; done) | (simp; omega)) _ | refine Fr.new ?_ _ | refine FrX.then ?_ (by assumption) | refine Fr.trans ?_ (by assumption)))
  have hm : ((x.mask : Int) == (y.mask : Int)) = (x.mask == y.mask) := by rw [Bool.eq_iff_iff]; simp; omega
  have ht := hx.txt _ hn 0 (Tr.lf.set 0 x.wv) (by simp only [Tr.get_set, Nat.reduceEqDiff, ↓reduceIte, Int.cast_ofNat_Int])
  have ht2 := hy.txt _ hn 0 (Tr.lf.set 0 y.wv) (by simp only [Tr.get_set, Nat.reduceEqDiff, ↓reduceIte, Int.cast_ofNat_Int])
  simp -implicitDefEqProofs only [go_sem, Wk_block, Wk_drawnC, reduceCtorEq, Nat.reduceEqDiff, Nat.reduceAdd, Nat.reduceLeDiff, Nat.reduceLT, Nat.reduceMul, Nat.reduceSub, ↓reduceIte, Int.reduceLT, Int.reduceLE, Int.reduceNeg, Int.reduceAdd, Int.reduceEq, Nat.reduceBneDiff, Nat.reduceBEq, Int.reduceToNat, Int.reduceMul, Int.reduceSub, Int.reduceBEq, Int.reduceBNe, Int.cast_ofNat_Int, Int.toNat_natCast_add_one, Nat.add_left_cancel_iff, Nat.left_eq_add, Nat.add_eq_left, Int.toNat_natCast, Nat.add_assoc, Int.ofNat_lt, Int.ofNat_le, Nat.lt_add_one_of_lt, Nat.lt_add_one, Nat.lt_add_right, Nat.lt_add_right_iff_pos, Nat.add_lt_add_iff_left] at ht ht2
  have hlx := hx.keys.len
  have hly := hy.keys.len
  simp only [List.length_map] at hlx hly
  cases c1 : (x.kind == y.kind)
  · simp -implicitDefEqProofs only [go_sem, Wk_block, Wk_drawnC, reduceCtorEq, Nat.reduceEqDiff, Nat.reduceAdd, Nat.reduceLeDiff, Nat.reduceLT, Nat.reduceMul, Nat.reduceSub, ↓reduceIte, Int.reduceLT, Int.reduceLE, Int.reduceNeg, Int.reduceAdd, Int.reduceEq, Nat.reduceBneDiff, Nat.reduceBEq, Int.reduceToNat, Int.reduceMul, Int.reduceSub, Int.reduceBEq, Int.reduceBNe, Int.cast_ofNat_Int, Int.toNat_natCast_add_one, Nat.add_left_cancel_iff, Nat.left_eq_add, Nat.add_eq_left, Int.toNat_natCast, Nat.add_assoc, Int.ofNat_lt, Int.ofNat_le, Nat.lt_add_one_of_lt, Nat.lt_add_one, Nat.lt_add_right, Nat.lt_add_right_iff_pos, Nat.add_lt_add_iff_left, fd13, hx.len, hy.len, hx.c0, hy.c0, hx.c1, hy.c1, hx.c2, hy.c2, hx.c3, hy.c3, hx.blk, hy.blk, hx.lab, hy.lab, hx.c22, hy.c22, hx.c23, hy.c23, hx.c24, hy.c24, eb, el, ft, tf, bne, hlx, hly, Bool.not_true, Bool.not_false, c1]
    exact ⟨by simp [sameOp, ← hm, c1], f0, dd⟩
  cases c2 : (x.node == y.node)
  · simp -implicitDefEqProofs only [go_sem, Wk_block, Wk_drawnC, reduceCtorEq, Nat.reduceEqDiff, Nat.reduceAdd, Nat.reduceLeDiff, Nat.reduceLT, Nat.reduceMul, Nat.reduceSub, ↓reduceIte, Int.reduceLT, Int.reduceLE, Int.reduceNeg, Int.reduceAdd, Int.reduceEq, Nat.reduceBneDiff, Nat.reduceBEq, Int.reduceToNat, Int.reduceMul, Int.reduceSub, Int.reduceBEq, Int.reduceBNe, Int.cast_ofNat_Int, Int.toNat_natCast_add_one, Nat.add_left_cancel_iff, Nat.left_eq_add, Nat.add_eq_left, Int.toNat_natCast, Nat.add_assoc, Int.ofNat_lt, Int.ofNat_le, Nat.lt_add_one_of_lt, Nat.lt_add_one, Nat.lt_add_right, Nat.lt_add_right_iff_pos, Nat.add_lt_add_iff_left, fd13, hx.len, hy.len, hx.c0, hy.c0, hx.c1, hy.c1, hx.c2, hy.c2, hx.c3, hy.c3, hx.blk, hy.blk, hx.lab, hy.lab, hx.c22, hy.c22, hx.c23, hy.c23, hx.c24, hy.c24, eb, el, ft, tf, bne, hlx, hly, Bool.not_true, Bool.not_false, c1, c2]
    exact ⟨by simp [sameOp, ← hm, c1, c2], f0, dd⟩
  cases c3 : (x.key == y.key)
  · simp -implicitDefEqProofs only [go_sem, Wk_block, Wk_drawnC, reduceCtorEq, Nat.reduceEqDiff, Nat.reduceAdd, Nat.reduceLeDiff, Nat.reduceLT, Nat.reduceMul, Nat.reduceSub, ↓reduceIte, Int.reduceLT, Int.reduceLE, Int.reduceNeg, Int.reduceAdd, Int.reduceEq, Nat.reduceBneDiff, Nat.reduceBEq, Int.reduceToNat, Int.reduceMul, Int.reduceSub, Int.reduceBEq, Int.reduceBNe, Int.cast_ofNat_Int, Int.toNat_natCast_add_one, Nat.add_left_cancel_iff, Nat.left_eq_add, Nat.add_eq_left, Int.toNat_natCast, Nat.add_assoc, Int.ofNat_lt, Int.ofNat_le, Nat.lt_add_one_of_lt, Nat.lt_add_one, Nat.lt_add_right, Nat.lt_add_right_iff_pos, Nat.add_lt_add_iff_left, fd13, hx.len, hy.len, hx.c0, hy.c0, hx.c1, hy.c1, hx.c2, hy.c2, hx.c3, hy.c3, hx.blk, hy.blk, hx.lab, hy.lab, hx.c22, hy.c22, hx.c23, hy.c23, hx.c24, hy.c24, eb, el, ft, tf, bne, hlx, hly, Bool.not_true, Bool.not_false, c1, c2, c3]
    exact ⟨by simp [sameOp, ← hm, c1, c2, c3], f0, dd⟩
  cases c4 : (x.at_ == y.at_)
  · simp -implicitDefEqProofs only [go_sem, Wk_block, Wk_drawnC, reduceCtorEq, Nat.reduceEqDiff, Nat.reduceAdd, Nat.reduceLeDiff, Nat.reduceLT, Nat.reduceMul, Nat.reduceSub, ↓reduceIte, Int.reduceLT, Int.reduceLE, Int.reduceNeg, Int.reduceAdd, Int.reduceEq, Nat.reduceBneDiff, Nat.reduceBEq, Int.reduceToNat, Int.reduceMul, Int.reduceSub, Int.reduceBEq, Int.reduceBNe, Int.cast_ofNat_Int, Int.toNat_natCast_add_one, Nat.add_left_cancel_iff, Nat.left_eq_add, Nat.add_eq_left, Int.toNat_natCast, Nat.add_assoc, Int.ofNat_lt, Int.ofNat_le, Nat.lt_add_one_of_lt, Nat.lt_add_one, Nat.lt_add_right, Nat.lt_add_right_iff_pos, Nat.add_lt_add_iff_left, fd13, hx.len, hy.len, hx.c0, hy.c0, hx.c1, hy.c1, hx.c2, hy.c2, hx.c3, hy.c3, hx.blk, hy.blk, hx.lab, hy.lab, hx.c22, hy.c22, hx.c23, hy.c23, hx.c24, hy.c24, eb, el, ft, tf, bne, hlx, hly, Bool.not_true, Bool.not_false, c1, c2, c3, c4]
    exact ⟨by simp [sameOp, ← hm, c1, c2, c3, c4], f0, dd⟩
  cases c5 : (((x.mask : Int) == (y.mask : Int)))
  · simp -implicitDefEqProofs only [go_sem, Wk_block, Wk_drawnC, reduceCtorEq, Nat.reduceEqDiff, Nat.reduceAdd, Nat.reduceLeDiff, Nat.reduceLT, Nat.reduceMul, Nat.reduceSub, ↓reduceIte, Int.reduceLT, Int.reduceLE, Int.reduceNeg, Int.reduceAdd, Int.reduceEq, Nat.reduceBneDiff, Nat.reduceBEq, Int.reduceToNat, Int.reduceMul, Int.reduceSub, Int.reduceBEq, Int.reduceBNe, Int.cast_ofNat_Int, Int.toNat_natCast_add_one, Nat.add_left_cancel_iff, Nat.left_eq_add, Nat.add_eq_left, Int.toNat_natCast, Nat.add_assoc, Int.ofNat_lt, Int.ofNat_le, Nat.lt_add_one_of_lt, Nat.lt_add_one, Nat.lt_add_right, Nat.lt_add_right_iff_pos, Nat.add_lt_add_iff_left, fd13, hx.len, hy.len, hx.c0, hy.c0, hx.c1, hy.c1, hx.c2, hy.c2, hx.c3, hy.c3, hx.blk, hy.blk, hx.lab, hy.lab, hx.c22, hy.c22, hx.c23, hy.c23, hx.c24, hy.c24, eb, el, ft, tf, bne, hlx, hly, Bool.not_true, Bool.not_false, c1, c2, c3, c4, c5]
    exact ⟨by simp [sameOp, ← hm, c1, c2, c3, c4, c5], f0, dd⟩
  cases c6 : (x.blk == y.blk)
  · simp -implicitDefEqProofs only [go_sem, Wk_block, Wk_drawnC, reduceCtorEq, Nat.reduceEqDiff, Nat.reduceAdd, Nat.reduceLeDiff, Nat.reduceLT, Nat.reduceMul, Nat.reduceSub, ↓reduceIte, Int.reduceLT, Int.reduceLE, Int.reduceNeg, Int.reduceAdd, Int.reduceEq, Nat.reduceBneDiff, Nat.reduceBEq, Int.reduceToNat, Int.reduceMul, Int.reduceSub, Int.reduceBEq, Int.reduceBNe, Int.cast_ofNat_Int, Int.toNat_natCast_add_one, Nat.add_left_cancel_iff, Nat.left_eq_add, Nat.add_eq_left, Int.toNat_natCast, Nat.add_assoc, Int.ofNat_lt, Int.ofNat_le, Nat.lt_add_one_of_lt, Nat.lt_add_one, Nat.lt_add_right, Nat.lt_add_right_iff_pos, Nat.add_lt_add_iff_left, fd13, hx.len, hy.len, hx.c0, hy.c0, hx.c1, hy.c1, hx.c2, hy.c2, hx.c3, hy.c3, hx.blk, hy.blk, hx.lab, hy.lab, hx.c22, hy.c22, hx.c23, hy.c23, hx.c24, hy.c24, eb, el, ft, tf, bne, hlx, hly, Bool.not_true, Bool.not_false, c1, c2, c3, c4, c5, c6]
    exact ⟨by simp [sameOp, ← hm, c1, c2, c3, c4, c5, c6], f0, dd⟩
  cases c7 : ((x.e == y.e && x.q == y.q))
  · simp -implicitDefEqProofs only [go_sem, Wk_block, Wk_drawnC, reduceCtorEq, Nat.reduceEqDiff, Nat.reduceAdd, Nat.reduceLeDiff, Nat.reduceLT, Nat.reduceMul, Nat.reduceSub, ↓reduceIte, Int.reduceLT, Int.reduceLE, Int.reduceNeg, Int.reduceAdd, Int.reduceEq, Nat.reduceBneDiff, Nat.reduceBEq, Int.reduceToNat, Int.reduceMul, Int.reduceSub, Int.reduceBEq, Int.reduceBNe, Int.cast_ofNat_Int, Int.toNat_natCast_add_one, Nat.add_left_cancel_iff, Nat.left_eq_add, Nat.add_eq_left, Int.toNat_natCast, Nat.add_assoc, Int.ofNat_lt, Int.ofNat_le, Nat.lt_add_one_of_lt, Nat.lt_add_one, Nat.lt_add_right, Nat.lt_add_right_iff_pos, Nat.add_lt_add_iff_left, fd13, hx.len, hy.len, hx.c0, hy.c0, hx.c1, hy.c1, hx.c2, hy.c2, hx.c3, hy.c3, hx.blk, hy.blk, hx.lab, hy.lab, hx.c22, hy.c22, hx.c23, hy.c23, hx.c24, hy.c24, eb, el, ft, tf, bne, hlx, hly, Bool.not_true, Bool.not_false, c1, c2, c3, c4, c5, c6, c7]
    exact ⟨by simp [sameOp, ← hm, c1, c2, c3, c4, c5, c6, c7], f0, dd⟩
  cases c8 : (((x.keys.length : Int) == (y.keys.length : Int)))
  · have hk : (x.keys == y.keys) = false := by
      rw [beq_eq_false_iff_ne]
      intro e
      rw [e] at c8
      simp at c8
    simp -implicitDefEqProofs only [go_sem, Wk_block, Wk_drawnC, reduceCtorEq, Nat.reduceEqDiff, Nat.reduceAdd, Nat.reduceLeDiff, Nat.reduceLT, Nat.reduceMul, Nat.reduceSub, ↓reduceIte, Int.reduceLT, Int.reduceLE, Int.reduceNeg, Int.reduceAdd, Int.reduceEq, Nat.reduceBneDiff, Nat.reduceBEq, Int.reduceToNat, Int.reduceMul, Int.reduceSub, Int.reduceBEq, Int.reduceBNe, Int.cast_ofNat_Int, Int.toNat_natCast_add_one, Nat.add_left_cancel_iff, Nat.left_eq_add, Nat.add_eq_left, Int.toNat_natCast, Nat.add_assoc, Int.ofNat_lt, Int.ofNat_le, Nat.lt_add_one_of_lt, Nat.lt_add_one, Nat.lt_add_right, Nat.lt_add_right_iff_pos, Nat.add_lt_add_iff_left, fd13, hx.len, hy.len, hx.c0, hy.c0, hx.c1, hy.c1, hx.c2, hy.c2, hx.c3, hy.c3, hx.blk, hy.blk, hx.lab, hy.lab, hx.c22, hy.c22, hx.c23, hy.c23, hx.c24, hy.c24, eb, el, ft, tf, bne, hlx, hly, Bool.not_true, Bool.not_false, c1, c2, c3, c4, c5, c6, c7, c8]
    exact ⟨by simp [sameOp, ← hm, hk, c1, c2, c3, c4, c5, c6, c7], f0, dd⟩
  have g2 : ((s.new (.cells x.cells false false 0)).new (.cells y.cells false false 0)).get s.next = some (.cells x.cells false false 0) := by
    rw [St.get_new, if_neg (by simp), St.get_new, if_pos rfl]
  have g3 : ((s.new (.cells x.cells false false 0)).new (.cells y.cells false false 0)).get (s.next + 1) = some (.cells y.cells false false 0) := by
    rw [St.get_new, if_pos (by simp)]
  have kx := hx.keys.mono hn
  have ky := hy.keys.mono hn
  have hkl2 : x.keys.length = y.keys.length := by simp at c8; omega
  cases c9 : (x.keep == y.keep)
  · simp -implicitDefEqProofs only [go_sem, Wk_block, Wk_drawnC, reduceCtorEq, Nat.reduceEqDiff, Nat.reduceAdd, Nat.reduceLeDiff, Nat.reduceLT, Nat.reduceMul, Nat.reduceSub, ↓reduceIte, Int.reduceLT, Int.reduceLE, Int.reduceNeg, Int.reduceAdd, Int.reduceEq, Nat.reduceBneDiff, Nat.reduceBEq, Int.reduceToNat, Int.reduceMul, Int.reduceSub, Int.reduceBEq, Int.reduceBNe, Int.cast_ofNat_Int, Int.toNat_natCast_add_one, Nat.add_left_cancel_iff, Nat.left_eq_add, Nat.add_eq_left, Int.toNat_natCast, Nat.add_assoc, Int.ofNat_lt, Int.ofNat_le, Nat.lt_add_one_of_lt, Nat.lt_add_one, Nat.lt_add_right, Nat.lt_add_right_iff_pos, Nat.add_lt_add_iff_left, fd13, hx.len, hy.len, hx.c0, hy.c0, hx.c1, hy.c1, hx.c2, hy.c2, hx.c3, hy.c3, hx.blk, hy.blk, hx.lab, hy.lab, hx.c22, hy.c22, hx.c23, hy.c23, hx.c24, hy.c24, eb, el, ft, tf, bne, hlx, hly, Bool.not_true, Bool.not_false, ht, ht2, strBin, txt_eq hx.keep.lt hy.keep.lt, c1, c2, c3, c4, c5, c6, c7, c8, c9]
    exact ⟨by simp [sameOp, ← hm, c1, c2, c3, c4, c5, c6, c7, c9], f0, dd⟩
  simp -implicitDefEqProofs only [go_sem, Wk_block, Wk_drawnC, reduceCtorEq, Nat.reduceEqDiff, Nat.reduceAdd, Nat.reduceLeDiff, Nat.reduceLT, Nat.reduceMul, Nat.reduceSub, ↓reduceIte, Int.reduceLT, Int.reduceLE, Int.reduceNeg, Int.reduceAdd, Int.reduceEq, Nat.reduceBneDiff, Nat.reduceBEq, Int.reduceToNat, Int.reduceMul, Int.reduceSub, Int.reduceBEq, Int.reduceBNe, Int.cast_ofNat_Int, Int.toNat_natCast_add_one, Nat.add_left_cancel_iff, Nat.left_eq_add, Nat.add_eq_left, Int.toNat_natCast, Nat.add_assoc, Int.ofNat_lt, Int.ofNat_le, Nat.lt_add_one_of_lt, Nat.lt_add_one, Nat.lt_add_right, Nat.lt_add_right_iff_pos, Nat.add_lt_add_iff_left, fd13, hx.len, hy.len, hx.c0, hy.c0, hx.c1, hy.c1, hx.c2, hy.c2, hx.c3, hy.c3, hx.blk, hy.blk, hx.lab, hy.lab, hx.c22, hy.c22, hx.c23, hy.c23, hx.c24, hy.c24, eb, el, ft, tf, bne, hlx, hly, Bool.not_true, Bool.not_false, ht, ht2, strBin, txt_eq hx.keep.lt hy.keep.lt, c1, c2, c3, c4, c5, c6, c7, c8, c9]
  clear ht ht2 hn
  generalize (s.new (.cells x.cells false false 0)).new (.cells y.cells false false 0) = s2 at *
  refine loop_ind (fun m ts s' => ∃ j : Nat, m = x.keys.length - j ∧ j ≤ x.keys.length ∧ ts.get 74 = some (.int .i64 (j : Int)) ∧ ts.get 73 = some (.int .i64 (x.keys.length : Int)) ∧ ts.get 2 = some (.ptr s.next 0) ∧ ts.get 3 = some (.ptr (s.next + 1) 0) ∧ (∀ i, i < j → x.keys[i]? = y.keys[i]?) ∧ s' = s2) ?_ (n := x.keys.length)
    ⟨0, rfl, by omega, by simp only [Tr.get_set, Nat.reduceEqDiff, ↓reduceIte, Int.cast_ofNat_Int], by simp only [Tr.get_set, Nat.reduceEqDiff, ↓reduceIte, Int.cast_ofNat_Int], by simp only [Tr.get_set, Nat.reduceEqDiff, ↓reduceIte, Int.cast_ofNat_Int], by simp only [Tr.get_set, Nat.reduceEqDiff, ↓reduceIte, Int.cast_ofNat_Int], by intro i hi; omega, rfl⟩
  rintro m ts s' ⟨j, rfl, hj, g74, g73, gt2, gt3, hpre, rfl⟩ IH
  by_cases hlt : j < x.keys.length
  · obtain ⟨b, o, vs, lo, ro, z, hidx, hg, hvj⟩ := kx.at_ j (by rw [List.length_map]; exact hlt)
    obtain ⟨b2, o2, vs2, lo2, ro2, z2, hidx2, hg2, hvj2⟩ := ky.at_ j (by rw [List.length_map]; omega)
    rw [List.getElem_map] at hvj hvj2
    have hxj : x.keys[j]? = some x.keys[j] := List.getElem?_eq_getElem hlt
    have hyj : y.keys[j]? = some (y.keys[j]'(by omega)) := List.getElem?_eq_getElem _
    generalize x.keys[j] = p at hvj hxj
    generalize y.keys[j]'(by omega) = q at hvj2 hyj
    have wj := succ_in (j := j) (by omega)
    by_cases hpq : p = q
    · subst hpq
      have hne : (p != p) = false := by simp
      simp -implicitDefEqProofs only [go_sem, Wk_block, Wk_drawnC, reduceCtorEq, Nat.reduceEqDiff, Nat.reduceAdd, Nat.reduceLeDiff, Nat.reduceLT, Nat.reduceMul, Nat.reduceSub, ↓reduceIte, Int.reduceLT, Int.reduceLE, Int.reduceNeg, Int.reduceAdd, Int.reduceEq, Nat.reduceBneDiff, Nat.reduceBEq, Int.reduceToNat, Int.reduceMul, Int.reduceSub, Int.reduceBEq, Int.reduceBNe, Int.cast_ofNat_Int, Int.toNat_natCast_add_one, Nat.add_left_cancel_iff, Nat.left_eq_add, Nat.add_eq_left, Int.toNat_natCast, Nat.add_assoc, Int.ofNat_lt, Int.ofNat_le, Nat.lt_add_one_of_lt, Nat.lt_add_one, Nat.lt_add_right, Nat.lt_add_right_iff_pos, Nat.add_lt_add_iff_left, g74, g73, gt2, gt3, g2, g3, hx.c3, hy.c3, hlt, hidx, hg, hvj, hidx2, hg2, hvj2, wj, hne, bne_self_eq_false]
      refine IH (x.keys.length - (j + 1)) _ _ (by omega) ⟨j + 1, rfl, by omega, ?_, ?_, ?_, ?_, ?_, rfl⟩
      · simp only [Tr.get_set, Nat.reduceEqDiff, ↓reduceIte, Int.cast_ofNat_Int]
      · simp only [Tr.get_set, Nat.reduceEqDiff, ↓reduceIte, Int.cast_ofNat_Int, g73]
      · simp only [go_sem, Wk_block, Wk_drawnC, reduceCtorEq, Nat.reduceEqDiff, Nat.reduceAdd, Nat.reduceLeDiff, Nat.reduceLT, Nat.reduceMul, Nat.reduceSub, ↓reduceIte, Int.reduceLT, Int.reduceLE, Int.reduceNeg, Int.reduceAdd, Int.reduceEq, Nat.reduceBneDiff, Nat.reduceBEq, Int.reduceToNat, Int.reduceMul, Int.reduceSub, Int.reduceBEq, Int.reduceBNe, Int.cast_ofNat_Int, Int.toNat_natCast_add_one, Nat.add_left_cancel_iff, Nat.left_eq_add, Nat.add_eq_left, Int.toNat_natCast, Nat.add_assoc, Int.ofNat_lt, Int.ofNat_le, gt2]
      · simp only [go_sem, Wk_block, Wk_drawnC, reduceCtorEq, Nat.reduceEqDiff, Nat.reduceAdd, Nat.reduceLeDiff, Nat.reduceLT, Nat.reduceMul, Nat.reduceSub, ↓reduceIte, Int.reduceLT, Int.reduceLE, Int.reduceNeg, Int.reduceAdd, Int.reduceEq, Nat.reduceBneDiff, Nat.reduceBEq, Int.reduceToNat, Int.reduceMul, Int.reduceSub, Int.reduceBEq, Int.reduceBNe, Int.cast_ofNat_Int, Int.toNat_natCast_add_one, Nat.add_left_cancel_iff, Nat.left_eq_add, Nat.add_eq_left, Int.toNat_natCast, Nat.add_assoc, Int.ofNat_lt, Int.ofNat_le, gt3]
      · intro i hi
        by_cases e : i = j
        · rw [e, hxj, hyj]
        · exact hpre i (by omega)
    · have hne : (p != q) = true := by simpa using hpq
      have hb : (x.keys == y.keys) = false := by
        rw [beq_eq_false_iff_ne]
        intro e
        rw [e, hyj] at hxj
        cases hxj
        exact hpq rfl
      simp -implicitDefEqProofs only [go_sem, Wk_block, Wk_drawnC, reduceCtorEq, Nat.reduceEqDiff, Nat.reduceAdd, Nat.reduceLeDiff, Nat.reduceLT, Nat.reduceMul, Nat.reduceSub, ↓reduceIte, Int.reduceLT, Int.reduceLE, Int.reduceNeg, Int.reduceAdd, Int.reduceEq, Nat.reduceBneDiff, Nat.reduceBEq, Int.reduceToNat, Int.reduceMul, Int.reduceSub, Int.reduceBEq, Int.reduceBNe, Int.cast_ofNat_Int, Int.toNat_natCast_add_one, Nat.add_left_cancel_iff, Nat.left_eq_add, Nat.add_eq_left, Int.toNat_natCast, Nat.add_assoc, Int.ofNat_lt, Int.ofNat_le, Nat.lt_add_one_of_lt, Nat.lt_add_one, Nat.lt_add_right, Nat.lt_add_right_iff_pos, Nat.add_lt_add_iff_left, g74, g73, gt2, gt3, g2, g3, hx.c3, hy.c3, hlt, hidx, hg, hvj, hidx2, hg2, hvj2, wj, hne]
      exact ⟨by simp [sameOp, hb], f0, dd⟩
  · have : j = x.keys.length := by omega
    subst this
    have hb : (x.keys == y.keys) = true := by
      rw [beq_iff_eq]
      apply List.ext_getElem?
      intro i
      by_cases hi : i < x.keys.length
      · exact hpre i hi
      · rw [List.getElem?_eq_none (by omega), List.getElem?_eq_none (by omega)]
    have hlf : decide ((x.keys.length : Int) < (x.keys.length : Int)) = false := decide_eq_false (by omega)
    simp -implicitDefEqProofs only [go_sem, Wk_block, Wk_drawnC, reduceCtorEq, Nat.reduceEqDiff, Nat.reduceAdd, Nat.reduceLeDiff, Nat.reduceLT, Nat.reduceMul, Nat.reduceSub, ↓reduceIte, Int.reduceLT, Int.reduceLE, Int.reduceNeg, Int.reduceAdd, Int.reduceEq, Nat.reduceBneDiff, Nat.reduceBEq, Int.reduceToNat, Int.reduceMul, Int.reduceSub, Int.reduceBEq, Int.reduceBNe, Int.cast_ofNat_Int, Int.toNat_natCast_add_one, Nat.add_left_cancel_iff, Nat.left_eq_add, Nat.add_eq_left, Int.toNat_natCast, Nat.add_assoc, Int.ofNat_lt, Int.ofNat_le, Nat.lt_add_one_of_lt, Nat.lt_add_one, Nat.lt_add_right, Nat.lt_add_right_iff_pos, Nat.add_lt_add_iff_left, g74, g73, hlf, hlt, gt2, gt3]
    exact ⟨by simp [sameOp, ← hm, c1, c2, c3, c4, c5, c6, c7, c9, hb], f0, dd⟩
end Go.Proofs.YteiiblpnegjjlaaGreat.Lw
namespace Go.Proofs.YteiiblpnegjjlaaGreat.Lw
open D
set_option linter.unusedSimpArgs false
set_option linter.unusedVariables false
set_option maxRecDepth 10000

/-- Too great an op. -/
def bigOp (x : Sop) : Bool := decide (100 < x.keys.length) || decide (400 < x.keep.length)
/-- Too great ops. -/
def great (l : List Sop) : Bool := decide (420 < l.length) || l.any bigOp

theorem great_run (l : List Sop) {v : AV} {s : St} (hA : RdS s v l) (hl : ∀ x ∈ l, SopOk s x) (hd : Dom s) : Wf mm 10 [v] s fun w s' => w = .bool (great l) ∧ Fr s s' ∧ Dom s' := by
  refine Wf_enter ft10 (sm (by decide)) (by rfl) ?_
  have ft : (false == true) = false := rfl
  have tf : (true == false) = false := rfl
  have hlen := hA.len
  cases c1 : decide (420 < l.length)
  rotate_left
  · have c2 : decide ((l.length : Int) > 420) = true := by simp at c1 ⊢; omega
    simp -implicitDefEqProofs only [go_sem, Wk_block, Wk_drawnC, reduceCtorEq, Nat.reduceEqDiff, Nat.reduceAdd, Nat.reduceLeDiff, Nat.reduceLT, Nat.reduceMul, Nat.reduceSub, ↓reduceIte, Int.reduceLT, Int.reduceLE, Int.reduceNeg, Int.reduceAdd, Int.reduceEq, Nat.reduceBneDiff, Nat.reduceBEq, Int.reduceToNat, Int.reduceMul, Int.reduceSub, Int.reduceBEq, Int.reduceBNe, Int.cast_ofNat_Int, Int.toNat_natCast_add_one, Nat.add_left_cancel_iff, Nat.left_eq_add, Nat.add_eq_left, Int.toNat_natCast, Nat.add_assoc, Int.ofNat_lt, Int.ofNat_le, Nat.lt_add_one_of_lt, Nat.lt_add_one, Nat.lt_add_right, Nat.lt_add_right_iff_pos, Nat.add_lt_add_iff_left, fd10, hlen, c1, c2, ft, tf]
    exact ⟨by simp [great, c1], Fr.refl _, hd⟩
  have c2 : decide ((l.length : Int) > 420) = false := by simp at c1 ⊢; omega
  have hl420 : l.length ≤ 420 := by simpa using c1
  simp -implicitDefEqProofs only [go_sem, Wk_block, Wk_drawnC, reduceCtorEq, Nat.reduceEqDiff, Nat.reduceAdd, Nat.reduceLeDiff, Nat.reduceLT, Nat.reduceMul, Nat.reduceSub, ↓reduceIte, Int.reduceLT, Int.reduceLE, Int.reduceNeg, Int.reduceAdd, Int.reduceEq, Nat.reduceBneDiff, Nat.reduceBEq, Int.reduceToNat, Int.reduceMul, Int.reduceSub, Int.reduceBEq, Int.reduceBNe, Int.cast_ofNat_Int, Int.toNat_natCast_add_one, Nat.add_left_cancel_iff, Nat.left_eq_add, Nat.add_eq_left, Int.toNat_natCast, Nat.add_assoc, Int.ofNat_lt, Int.ofNat_le, Nat.lt_add_one_of_lt, Nat.lt_add_one, Nat.lt_add_right, Nat.lt_add_right_iff_pos, Nat.add_lt_add_iff_left, fd10, hlen, c1, c2, ft, tf]
  refine loop_ind (fun m ts s' => ∃ j : Nat, m = l.length - j ∧ j ≤ l.length ∧ ts.get 10 = some (.int .i64 (j : Int)) ∧ ts.get 9 = some (.int .i64 (l.length : Int)) ∧ ts.get 8 = some v ∧ (l.take j).any bigOp = false ∧ Fr s s' ∧ Dom s') ?_ (n := l.length)
    ⟨0, rfl, by omega, by simp only [Tr.get_set, Nat.reduceEqDiff, ↓reduceIte, Int.cast_ofNat_Int], by simp only [Tr.get_set, Nat.reduceEqDiff, ↓reduceIte, Int.cast_ofNat_Int], by simp only [Tr.get_set, Nat.reduceEqDiff, ↓reduceIte, Int.cast_ofNat_Int], rfl, Fr.refl s, hd⟩
  rintro m ts s1 ⟨j, rfl, hj, g10, g9, g8, hpre, f, dd⟩ IH
  by_cases hlt : j < l.length
  · have hA1 := hA.mono f
    obtain ⟨b, o, vs, lo, ro, z, hidx, hv, hbl, hle, he⟩ := hA1.at_ j hlt
    have hok := hl l[j] (List.getElem_mem hlt)
    have htk : (l.take (j + 1)).any bigOp = bigOp l[j] := by
      rw [List.take_succ_eq_append_getElem hlt, List.any_append, hpre]
      simp
    have hmem : l[j] ∈ l := List.getElem_mem hlt
    generalize l[j] = x at he hok htk hmem
    have wj := succ_in (j := j) (by omega)
    have ht : x.cells.take 25 = x.cells := List.take_of_length_le (by rw [hok.len]; omega)
    have hkl := hok.keys.len
    have hwl := hok.keep.len
    simp only [List.length_map] at hkl
    have d1 : decide ((x.keys.length : Int) > 100) = decide (100 < x.keys.length) := by rw [Bool.eq_iff_iff]; simp; omega
    have d2 : decide ((x.keep.length : Int) > 400) = decide (400 < x.keep.length) := by rw [Bool.eq_iff_iff]; simp; omega
    have e1 : Fr s1 (s1.new (.cells x.cells false false 0)) := by (repeat (first | exact FrX.refl _ _ | exact Fr.refl _ | assumption | exact Fr.x (by assumption) _ | refine FrX.put ?_ (.inl rfl) _ | refine FrX.put ?_ (.inr (by first | omega | (simp; done) | (simp; omega))) _ | refine FrX.new ?_ _ | refine Fr.put ?_ (by first | omega | (simp; done) | (simp; omega)) _ | refine Fr.new ?_ _ | refine FrX.then ?_ (by assumption) | refine Fr.trans ?_ (by assumption)))
    have f1 := f.trans e1
    have dd1 : Dom (s1.new (.cells x.cells false false 0)) := dom_new dd _
    cases c3 : decide (100 < x.keys.length)
    · cases c4 : decide (400 < x.keep.length)
      · have hb : bigOp x = false := by simp only [bigOp, c3, c4, Bool.or_false]
        simp -implicitDefEqProofs only [go_sem, Wk_block, Wk_drawnC, reduceCtorEq, Nat.reduceEqDiff, Nat.reduceAdd, Nat.reduceLeDiff, Nat.reduceLT, Nat.reduceMul, Nat.reduceSub, ↓reduceIte, Int.reduceLT, Int.reduceLE, Int.reduceNeg, Int.reduceAdd, Int.reduceEq, Nat.reduceBneDiff, Nat.reduceBEq, Int.reduceToNat, Int.reduceMul, Int.reduceSub, Int.reduceBEq, Int.reduceBNe, Int.cast_ofNat_Int, Int.toNat_natCast_add_one, Nat.add_left_cancel_iff, Nat.left_eq_add, Nat.add_eq_left, Int.toNat_natCast, Nat.add_assoc, Int.ofNat_lt, Int.ofNat_le, Nat.lt_add_one_of_lt, Nat.lt_add_one, Nat.lt_add_right, Nat.lt_add_right_iff_pos, Nat.add_lt_add_iff_left, g10, g9, g8, hlt, hidx, hv, hle, he, hok.len, hok.cell, hok.c3, hok.c24, hkl, hwl, d1, d2, c3, c4, ht, wj, ft, tf]
        refine IH (l.length - (j + 1)) _ _ (by omega) ⟨j + 1, rfl, by omega, ?_, ?_, ?_, by rw [htk, hb], f1, dd1⟩
        · simp only [Tr.get_set, Nat.reduceEqDiff, ↓reduceIte, Int.cast_ofNat_Int]
        · simp only [Tr.get_set, Nat.reduceEqDiff, ↓reduceIte, Int.cast_ofNat_Int, g9]
        · simp only [Tr.get_set, Nat.reduceEqDiff, ↓reduceIte, Int.cast_ofNat_Int, g8]
      · have hb : great l = true := by
          unfold great
          rw [Bool.or_eq_true]
          refine .inr (List.any_eq_true.2 ⟨x, hmem, ?_⟩)
          simp only [bigOp, c4, Bool.or_true]
        simp -implicitDefEqProofs only [go_sem, Wk_block, Wk_drawnC, reduceCtorEq, Nat.reduceEqDiff, Nat.reduceAdd, Nat.reduceLeDiff, Nat.reduceLT, Nat.reduceMul, Nat.reduceSub, ↓reduceIte, Int.reduceLT, Int.reduceLE, Int.reduceNeg, Int.reduceAdd, Int.reduceEq, Nat.reduceBneDiff, Nat.reduceBEq, Int.reduceToNat, Int.reduceMul, Int.reduceSub, Int.reduceBEq, Int.reduceBNe, Int.cast_ofNat_Int, Int.toNat_natCast_add_one, Nat.add_left_cancel_iff, Nat.left_eq_add, Nat.add_eq_left, Int.toNat_natCast, Nat.add_assoc, Int.ofNat_lt, Int.ofNat_le, Nat.lt_add_one_of_lt, Nat.lt_add_one, Nat.lt_add_right, Nat.lt_add_right_iff_pos, Nat.add_lt_add_iff_left, g10, g9, g8, hlt, hidx, hv, hle, he, hok.len, hok.cell, hok.c3, hok.c24, hkl, hwl, d1, d2, c3, c4, ht, wj, ft, tf]
        exact ⟨by rw [hb], f1, dd1⟩
    · have hb : great l = true := by
        unfold great
        rw [Bool.or_eq_true]
        refine .inr (List.any_eq_true.2 ⟨x, hmem, ?_⟩)
        simp only [bigOp, c3, Bool.true_or]
      simp -implicitDefEqProofs only [go_sem, Wk_block, Wk_drawnC, reduceCtorEq, Nat.reduceEqDiff, Nat.reduceAdd, Nat.reduceLeDiff, Nat.reduceLT, Nat.reduceMul, Nat.reduceSub, ↓reduceIte, Int.reduceLT, Int.reduceLE, Int.reduceNeg, Int.reduceAdd, Int.reduceEq, Nat.reduceBneDiff, Nat.reduceBEq, Int.reduceToNat, Int.reduceMul, Int.reduceSub, Int.reduceBEq, Int.reduceBNe, Int.cast_ofNat_Int, Int.toNat_natCast_add_one, Nat.add_left_cancel_iff, Nat.left_eq_add, Nat.add_eq_left, Int.toNat_natCast, Nat.add_assoc, Int.ofNat_lt, Int.ofNat_le, Nat.lt_add_one_of_lt, Nat.lt_add_one, Nat.lt_add_right, Nat.lt_add_right_iff_pos, Nat.add_lt_add_iff_left, g10, g9, g8, hlt, hidx, hv, hle, he, hok.len, hok.cell, hok.c3, hok.c24, hkl, hwl, d1, d2, c3, ht, wj, ft, tf]
      exact ⟨by rw [hb], f1, dd1⟩
  · have : j = l.length := by omega
    subst this
    rw [List.take_length] at hpre
    have hlf : decide ((l.length : Int) < (l.length : Int)) = false := decide_eq_false (by omega)
    have hb : great l = false := by simp only [great, c1, hpre, Bool.or_false]
    simp -implicitDefEqProofs only [go_sem, Wk_block, Wk_drawnC, reduceCtorEq, Nat.reduceEqDiff, Nat.reduceAdd, Nat.reduceLeDiff, Nat.reduceLT, Nat.reduceMul, Nat.reduceSub, ↓reduceIte, Int.reduceLT, Int.reduceLE, Int.reduceNeg, Int.reduceAdd, Int.reduceEq, Nat.reduceBneDiff, Nat.reduceBEq, Int.reduceToNat, Int.reduceMul, Int.reduceSub, Int.reduceBEq, Int.reduceBNe, Int.cast_ofNat_Int, Int.toNat_natCast_add_one, Nat.add_left_cancel_iff, Nat.left_eq_add, Nat.add_eq_left, Int.toNat_natCast, Nat.add_assoc, Int.ofNat_lt, Int.ofNat_le, Nat.lt_add_one_of_lt, Nat.lt_add_one, Nat.lt_add_right, Nat.lt_add_right_iff_pos, Nat.add_lt_add_iff_left, g10, g9, hlf, hlt, g8]
    exact ⟨by rw [hb], f, dd⟩
end Go.Proofs.YteiiblpnegjjlaaGreat.Lw
namespace Go.Proofs.YteiiblpnegjjlaaGreat.Lw
open D
set_option linter.unusedSimpArgs false
set_option linter.unusedVariables false
set_option maxRecDepth 10000

/-- A number that is not from nought to an end. -/
def bad (most a : Int) : Bool := decide (a < 0) || decide (a > most)

theorem within1_eq {p : Nat} {lo ro : Bool} {z : Nat} {s : St} (a most : Int) (hp : s.get p = some (.cells [.int .i64 most] lo ro z)) :
    mm.L.call 49 [.int .i64 a, .ptr p 0] s = some (.bool (bad most a), s) := by
  refine of_Wf (Wf_enter ft49 (sm (by decide)) (by rfl) ?_)
  have ft : (false == true) = false := rfl
  have tf : (true == false) = false := rfl
  cases c1 : decide (a < 0)
  · simp -implicitDefEqProofs only [go_sem, Wk_block, Wk_drawnC, reduceCtorEq, Nat.reduceEqDiff, Nat.reduceAdd, Nat.reduceLeDiff, Nat.reduceLT, Nat.reduceMul, Nat.reduceSub, ↓reduceIte, Int.reduceLT, Int.reduceLE, Int.reduceNeg, Int.reduceAdd, Int.reduceEq, Nat.reduceBneDiff, Nat.reduceBEq, Int.reduceToNat, Int.reduceMul, Int.reduceSub, Int.reduceBEq, Int.reduceBNe, Int.cast_ofNat_Int, Int.toNat_natCast_add_one, Nat.add_left_cancel_iff, Nat.left_eq_add, Nat.add_eq_left, Int.toNat_natCast, Nat.add_assoc, Int.ofNat_lt, Int.ofNat_le, Nat.lt_add_one_of_lt, Nat.lt_add_one, Nat.lt_add_right, Nat.lt_add_right_iff_pos, Nat.add_lt_add_iff_left, fd49, hp, c1, ft, tf]
    simp [bad, c1]
  · simp -implicitDefEqProofs only [go_sem, Wk_block, Wk_drawnC, reduceCtorEq, Nat.reduceEqDiff, Nat.reduceAdd, Nat.reduceLeDiff, Nat.reduceLT, Nat.reduceMul, Nat.reduceSub, ↓reduceIte, Int.reduceLT, Int.reduceLE, Int.reduceNeg, Int.reduceAdd, Int.reduceEq, Nat.reduceBneDiff, Nat.reduceBEq, Int.reduceToNat, Int.reduceMul, Int.reduceSub, Int.reduceBEq, Int.reduceBNe, Int.cast_ofNat_Int, Int.toNat_natCast_add_one, Nat.add_left_cancel_iff, Nat.left_eq_add, Nat.add_eq_left, Int.toNat_natCast, Nat.add_assoc, Int.ofNat_lt, Int.ofNat_le, Nat.lt_add_one_of_lt, Nat.lt_add_one, Nat.lt_add_right, Nat.lt_add_right_iff_pos, Nat.add_lt_add_iff_left, fd49, hp, c1, ft, tf]
    simp [bad, c1]

theorem IndexI_eq {L : List Int} {v : AV} {p : Nat} {lo ro : Bool} {z : Nat} {s : St} {most : Int} (hv : Rw s v (L.map (AV.int .i64))) (hL : L.length < 1000000000) (hp : s.get p = some (.cells [.int .i64 most] lo ro z)) :
    Wf mm 60 [v, .fn (.func 49) [] [.ptr p 0]] s fun w s' => (∃ r : Int, w = .int .i64 r ∧ decide (r ≥ 0) = L.any (bad most)) ∧ s' = s := by
  refine Wf_enter ft60 (sm (by decide)) (by rfl) ?_
  have ft : (false == true) = false := rfl
  have tf : (true == false) = false := rfl
  have hlv := hv.len
  simp only [List.length_map] at hlv
  simp -implicitDefEqProofs only [go_sem, Wk_block, Wk_drawnC, reduceCtorEq, Nat.reduceEqDiff, Nat.reduceAdd, Nat.reduceLeDiff, Nat.reduceLT, Nat.reduceMul, Nat.reduceSub, ↓reduceIte, Int.reduceLT, Int.reduceLE, Int.reduceNeg, Int.reduceAdd, Int.reduceEq, Nat.reduceBneDiff, Nat.reduceBEq, Int.reduceToNat, Int.reduceMul, Int.reduceSub, Int.reduceBEq, Int.reduceBNe, Int.cast_ofNat_Int, Int.toNat_natCast_add_one, Nat.add_left_cancel_iff, Nat.left_eq_add, Nat.add_eq_left, Int.toNat_natCast, Nat.add_assoc, Int.ofNat_lt, Int.ofNat_le, Nat.lt_add_one_of_lt, Nat.lt_add_one, Nat.lt_add_right, Nat.lt_add_right_iff_pos, Nat.add_lt_add_iff_left, fd60, hlv]
  refine loop_ind (fun m ts s' => ∃ j : Nat, m = L.length - j ∧ j ≤ L.length ∧ ts.get 8 = some (.int .i64 (j : Int)) ∧ ts.get 7 = some (.int .i64 (L.length : Int)) ∧ ts.get 0 = some v ∧ ts.get 1 = some (.fn (.func 49) [] [.ptr p 0]) ∧ (L.take j).any (bad most) = false ∧ s' = s) ?_ (n := L.length)
    ⟨0, rfl, by omega, by simp only [Tr.get_set, Nat.reduceEqDiff, ↓reduceIte, Int.cast_ofNat_Int], by simp only [Tr.get_set, Nat.reduceEqDiff, ↓reduceIte, Int.cast_ofNat_Int], by simp only [Tr.get_set, Nat.reduceEqDiff, ↓reduceIte, Int.cast_ofNat_Int], by simp only [Tr.get_set, Nat.reduceEqDiff, ↓reduceIte, Int.cast_ofNat_Int], rfl, rfl⟩
  rintro m ts s' ⟨j, rfl, hj, g8, g7, g0, g1, hpre, rfl⟩ IH
  by_cases hlt : j < L.length
  · obtain ⟨b, o, vs, lo, ro, z, hidx, hg, hvj⟩ := hv.at_ j (by rw [List.length_map]; exact hlt)
    rw [List.getElem_map] at hvj
    have htk : (L.take (j + 1)).any (bad most) = bad most L[j] := by
      rw [List.take_succ_eq_append_getElem hlt, List.any_append, hpre]
      simp
    have hmem : L[j] ∈ L := List.getElem_mem hlt
    generalize L[j] = a at hvj htk hmem
    have wj := succ_in (j := j) (by omega)
    cases c1 : bad most a
    · simp -implicitDefEqProofs only [go_sem, Wk_block, Wk_drawnC, reduceCtorEq, Nat.reduceEqDiff, Nat.reduceAdd, Nat.reduceLeDiff, Nat.reduceLT, Nat.reduceMul, Nat.reduceSub, ↓reduceIte, Int.reduceLT, Int.reduceLE, Int.reduceNeg, Int.reduceAdd, Int.reduceEq, Nat.reduceBneDiff, Nat.reduceBEq, Int.reduceToNat, Int.reduceMul, Int.reduceSub, Int.reduceBEq, Int.reduceBNe, Int.cast_ofNat_Int, Int.toNat_natCast_add_one, Nat.add_left_cancel_iff, Nat.left_eq_add, Nat.add_eq_left, Int.toNat_natCast, Nat.add_assoc, Int.ofNat_lt, Int.ofNat_le, Nat.lt_add_one_of_lt, Nat.lt_add_one, Nat.lt_add_right, Nat.lt_add_right_iff_pos, Nat.add_lt_add_iff_left, g8, g7, g0, g1, hlt, hidx, hg, hvj, wj, Wl_eq (within1_eq a most hp), c1, ft, tf]
      refine IH (L.length - (j + 1)) _ _ (by omega) ⟨j + 1, rfl, by omega, ?_, ?_, ?_, ?_, by rw [htk, c1], rfl⟩
      · simp only [Tr.get_set, Nat.reduceEqDiff, ↓reduceIte, Int.cast_ofNat_Int]
      · simp only [Tr.get_set, Nat.reduceEqDiff, ↓reduceIte, Int.cast_ofNat_Int, g7]
      · simp only [Tr.get_set, Nat.reduceEqDiff, ↓reduceIte, Int.cast_ofNat_Int, g0]
      · simp only [Tr.get_set, Nat.reduceEqDiff, ↓reduceIte, Int.cast_ofNat_Int, g1]
    · have hb : L.any (bad most) = true := List.any_eq_true.2 ⟨a, hmem, c1⟩
      simp -implicitDefEqProofs only [go_sem, Wk_block, Wk_drawnC, reduceCtorEq, Nat.reduceEqDiff, Nat.reduceAdd, Nat.reduceLeDiff, Nat.reduceLT, Nat.reduceMul, Nat.reduceSub, ↓reduceIte, Int.reduceLT, Int.reduceLE, Int.reduceNeg, Int.reduceAdd, Int.reduceEq, Nat.reduceBneDiff, Nat.reduceBEq, Int.reduceToNat, Int.reduceMul, Int.reduceSub, Int.reduceBEq, Int.reduceBNe, Int.cast_ofNat_Int, Int.toNat_natCast_add_one, Nat.add_left_cancel_iff, Nat.left_eq_add, Nat.add_eq_left, Int.toNat_natCast, Nat.add_assoc, Int.ofNat_lt, Int.ofNat_le, Nat.lt_add_one_of_lt, Nat.lt_add_one, Nat.lt_add_right, Nat.lt_add_right_iff_pos, Nat.add_lt_add_iff_left, g8, g7, g0, g1, hlt, hidx, hg, hvj, wj, Wl_eq (within1_eq a most hp), c1, ft, tf]
      exact ⟨_, rfl, by rw [hb]; simp⟩
  · have : j = L.length := by omega
    subst this
    rw [List.take_length] at hpre
    have hlf : decide ((L.length : Int) < (L.length : Int)) = false := decide_eq_false (by omega)
    simp -implicitDefEqProofs only [go_sem, Wk_block, Wk_drawnC, reduceCtorEq, Nat.reduceEqDiff, Nat.reduceAdd, Nat.reduceLeDiff, Nat.reduceLT, Nat.reduceMul, Nat.reduceSub, ↓reduceIte, Int.reduceLT, Int.reduceLE, Int.reduceNeg, Int.reduceAdd, Int.reduceEq, Nat.reduceBneDiff, Nat.reduceBEq, Int.reduceToNat, Int.reduceMul, Int.reduceSub, Int.reduceBEq, Int.reduceBNe, Int.cast_ofNat_Int, Int.toNat_natCast_add_one, Nat.add_left_cancel_iff, Nat.left_eq_add, Nat.add_eq_left, Int.toNat_natCast, Nat.add_assoc, Int.ofNat_lt, Int.ofNat_le, Nat.lt_add_one_of_lt, Nat.lt_add_one, Nat.lt_add_right, Nat.lt_add_right_iff_pos, Nat.add_lt_add_iff_left, g8, g7, hlf, hlt, g0, g1]
    exact ⟨_, rfl, by rw [hpre]; rfl⟩

theorem within_run {L : List Int} {v : AV} {s : St} (most : Int) (hv : Rw s v (L.map (AV.int .i64))) (hL : L.length < 1000000000) (hd : ∀ b o, s.get b = some o → b < s.next) :
    Wf mm 34 [.int .i64 most, v] s fun w s' => w = .bool (!L.any (bad most)) ∧ s' = s.new (.cells [.int .i64 most] false false 0) := by
  refine Wf_enter ft34 (sm (by decide)) (by rfl) ?_
  have ft : (false == true) = false := rfl
  have tf : (true == false) = false := rfl
  have hp : (s.new (.cells [.int .i64 most] false false 0)).get s.next = some (.cells [.int .i64 most] false false 0) := by rw [St.get_new, if_pos rfl]
  have hv2 := hv.mono (keeps_new hd (.cells [.int .i64 most] false false 0))
  have hc : Wf mm 48 [v, .fn (.func 49) [] [.ptr s.next 0]] (s.new (.cells [.int .i64 most] false false 0)) fun w s' => w = .bool (L.any (bad most)) ∧ s' = s.new (.cells [.int .i64 most] false false 0) := by
    refine Wf_enter ft48 (sm (by decide)) (by rfl) ?_
    simp -implicitDefEqProofs only [go_sem, Wk_block, Wk_drawnC, reduceCtorEq, Nat.reduceEqDiff, Nat.reduceAdd, Nat.reduceLeDiff, Nat.reduceLT, Nat.reduceMul, Nat.reduceSub, ↓reduceIte, Int.reduceLT, Int.reduceLE, Int.reduceNeg, Int.reduceAdd, Int.reduceEq, Nat.reduceBneDiff, Nat.reduceBEq, Int.reduceToNat, Int.reduceMul, Int.reduceSub, Int.reduceBEq, Int.reduceBNe, Int.cast_ofNat_Int, Int.toNat_natCast_add_one, Nat.add_left_cancel_iff, Nat.left_eq_add, Nat.add_eq_left, Int.toNat_natCast, Nat.add_assoc, Int.ofNat_lt, Int.ofNat_le, Nat.lt_add_one_of_lt, Nat.lt_add_one, Nat.lt_add_right, Nat.lt_add_right_iff_pos, Nat.add_lt_add_iff_left, fd48, ft, tf]
    refine Wl_of (IndexI_eq hv2 hL hp) ?_
    rintro _ s' ⟨⟨r, rfl, hr⟩, rfl⟩
    simp -implicitDefEqProofs only [go_sem, Wk_block, Wk_drawnC, reduceCtorEq, Nat.reduceEqDiff, Nat.reduceAdd, Nat.reduceLeDiff, Nat.reduceLT, Nat.reduceMul, Nat.reduceSub, ↓reduceIte, Int.reduceLT, Int.reduceLE, Int.reduceNeg, Int.reduceAdd, Int.reduceEq, Nat.reduceBneDiff, Nat.reduceBEq, Int.reduceToNat, Int.reduceMul, Int.reduceSub, Int.reduceBEq, Int.reduceBNe, Int.cast_ofNat_Int, Int.toNat_natCast_add_one, Nat.add_left_cancel_iff, Nat.left_eq_add, Nat.add_eq_left, Int.toNat_natCast, Nat.add_assoc, Int.ofNat_lt, Int.ofNat_le, Nat.lt_add_one_of_lt, Nat.lt_add_one, Nat.lt_add_right, Nat.lt_add_right_iff_pos, Nat.add_lt_add_iff_left, hr, ft, tf]
  simp -implicitDefEqProofs only [go_sem, Wk_block, Wk_drawnC, reduceCtorEq, Nat.reduceEqDiff, Nat.reduceAdd, Nat.reduceLeDiff, Nat.reduceLT, Nat.reduceMul, Nat.reduceSub, ↓reduceIte, Int.reduceLT, Int.reduceLE, Int.reduceNeg, Int.reduceAdd, Int.reduceEq, Nat.reduceBneDiff, Nat.reduceBEq, Int.reduceToNat, Int.reduceMul, Int.reduceSub, Int.reduceBEq, Int.reduceBNe, Int.cast_ofNat_Int, Int.toNat_natCast_add_one, Nat.add_left_cancel_iff, Nat.left_eq_add, Nat.add_eq_left, Int.toNat_natCast, Nat.add_assoc, Int.ofNat_lt, Int.ofNat_le, Nat.lt_add_one_of_lt, Nat.lt_add_one, Nat.lt_add_right, Nat.lt_add_right_iff_pos, Nat.add_lt_add_iff_left, fd34, ft, tf]
  refine Wl_of hc ?_
  rintro _ s' ⟨rfl, rfl⟩
  simp -implicitDefEqProofs only [go_sem, Wk_block, Wk_drawnC, reduceCtorEq, Nat.reduceEqDiff, Nat.reduceAdd, Nat.reduceLeDiff, Nat.reduceLT, Nat.reduceMul, Nat.reduceSub, ↓reduceIte, Int.reduceLT, Int.reduceLE, Int.reduceNeg, Int.reduceAdd, Int.reduceEq, Nat.reduceBneDiff, Nat.reduceBEq, Int.reduceToNat, Int.reduceMul, Int.reduceSub, Int.reduceBEq, Int.reduceBNe, Int.cast_ofNat_Int, Int.toNat_natCast_add_one, Nat.add_left_cancel_iff, Nat.left_eq_add, Nat.add_eq_left, Int.toNat_natCast, Nat.add_assoc, Int.ofNat_lt, Int.ofNat_le, Nat.lt_add_one_of_lt, Nat.lt_add_one, Nat.lt_add_right, Nat.lt_add_right_iff_pos, Nat.add_lt_add_iff_left, ft, tf]
end Go.Proofs.YteiiblpnegjjlaaGreat.Lw
namespace Go.Proofs.YteiiblpnegjjlaaGreat.Lw
open D
set_option linter.unusedSimpArgs false
set_option linter.unusedVariables false
set_option maxRecDepth 10000

/-- Such a kind, such a node there is. -/
def rightOp (x : Sop) : Bool := decide (x.kind ≥ 0) && decide (x.kind ≤ 18) && decide (x.node ≥ 0) && decide (x.node < 2)
/-- The lists of an op that can be written. -/
def listsOp (x : Sop) : Bool := decide (x.keys.length ≤ 64) && !x.keys.any (bad 255) && decide (x.keep.length ≤ 255)
/-- An op that can be written. -/
def plainOp (x : Sop) : Bool := rightOp x && listsOp x && !bad 255 x.key && decide (x.at_ ≥ -1) && decide (x.at_ < 65535)

theorem Right_run {x : Sop} {s : St} (hx : SopOk s x) : Wf mm 47 [.agg x.cells] s fun w s' => w = .bool (rightOp x) ∧ s' = s.new (.cells x.cells false false 0) := by
  refine Wf_enter ft47 (sm (by decide)) (by rfl) ?_
  have ft : (false == true) = false := rfl
  have tf : (true == false) = false := rfl
  cases c1 : decide (x.kind ≥ 0)
  · simp -implicitDefEqProofs only [go_sem, Wk_block, Wk_drawnC, reduceCtorEq, Nat.reduceEqDiff, Nat.reduceAdd, Nat.reduceLeDiff, Nat.reduceLT, Nat.reduceMul, Nat.reduceSub, ↓reduceIte, Int.reduceLT, Int.reduceLE, Int.reduceNeg, Int.reduceAdd, Int.reduceEq, Nat.reduceBneDiff, Nat.reduceBEq, Int.reduceToNat, Int.reduceMul, Int.reduceSub, Int.reduceBEq, Int.reduceBNe, Int.cast_ofNat_Int, Int.toNat_natCast_add_one, Nat.add_left_cancel_iff, Nat.left_eq_add, Nat.add_eq_left, Int.toNat_natCast, Nat.add_assoc, Int.ofNat_lt, Int.ofNat_le, Nat.lt_add_one_of_lt, Nat.lt_add_one, Nat.lt_add_right, Nat.lt_add_right_iff_pos, Nat.add_lt_add_iff_left, fd47, hx.len, hx.c0, hx.c1, c1, ft, tf]
    simp [rightOp, c1]
  cases c2 : decide (x.kind ≤ 18)
  · simp -implicitDefEqProofs only [go_sem, Wk_block, Wk_drawnC, reduceCtorEq, Nat.reduceEqDiff, Nat.reduceAdd, Nat.reduceLeDiff, Nat.reduceLT, Nat.reduceMul, Nat.reduceSub, ↓reduceIte, Int.reduceLT, Int.reduceLE, Int.reduceNeg, Int.reduceAdd, Int.reduceEq, Nat.reduceBneDiff, Nat.reduceBEq, Int.reduceToNat, Int.reduceMul, Int.reduceSub, Int.reduceBEq, Int.reduceBNe, Int.cast_ofNat_Int, Int.toNat_natCast_add_one, Nat.add_left_cancel_iff, Nat.left_eq_add, Nat.add_eq_left, Int.toNat_natCast, Nat.add_assoc, Int.ofNat_lt, Int.ofNat_le, Nat.lt_add_one_of_lt, Nat.lt_add_one, Nat.lt_add_right, Nat.lt_add_right_iff_pos, Nat.add_lt_add_iff_left, fd47, hx.len, hx.c0, hx.c1, c1, c2, ft, tf]
    simp [rightOp, c1, c2]
  cases c3 : decide (x.node ≥ 0)
  · simp -implicitDefEqProofs only [go_sem, Wk_block, Wk_drawnC, reduceCtorEq, Nat.reduceEqDiff, Nat.reduceAdd, Nat.reduceLeDiff, Nat.reduceLT, Nat.reduceMul, Nat.reduceSub, ↓reduceIte, Int.reduceLT, Int.reduceLE, Int.reduceNeg, Int.reduceAdd, Int.reduceEq, Nat.reduceBneDiff, Nat.reduceBEq, Int.reduceToNat, Int.reduceMul, Int.reduceSub, Int.reduceBEq, Int.reduceBNe, Int.cast_ofNat_Int, Int.toNat_natCast_add_one, Nat.add_left_cancel_iff, Nat.left_eq_add, Nat.add_eq_left, Int.toNat_natCast, Nat.add_assoc, Int.ofNat_lt, Int.ofNat_le, Nat.lt_add_one_of_lt, Nat.lt_add_one, Nat.lt_add_right, Nat.lt_add_right_iff_pos, Nat.add_lt_add_iff_left, fd47, hx.len, hx.c0, hx.c1, c1, c2, c3, ft, tf]
    simp [rightOp, c1, c2, c3]
  cases c4 : decide (x.node < 2)
  · simp -implicitDefEqProofs only [go_sem, Wk_block, Wk_drawnC, reduceCtorEq, Nat.reduceEqDiff, Nat.reduceAdd, Nat.reduceLeDiff, Nat.reduceLT, Nat.reduceMul, Nat.reduceSub, ↓reduceIte, Int.reduceLT, Int.reduceLE, Int.reduceNeg, Int.reduceAdd, Int.reduceEq, Nat.reduceBneDiff, Nat.reduceBEq, Int.reduceToNat, Int.reduceMul, Int.reduceSub, Int.reduceBEq, Int.reduceBNe, Int.cast_ofNat_Int, Int.toNat_natCast_add_one, Nat.add_left_cancel_iff, Nat.left_eq_add, Nat.add_eq_left, Int.toNat_natCast, Nat.add_assoc, Int.ofNat_lt, Int.ofNat_le, Nat.lt_add_one_of_lt, Nat.lt_add_one, Nat.lt_add_right, Nat.lt_add_right_iff_pos, Nat.add_lt_add_iff_left, fd47, hx.len, hx.c0, hx.c1, c1, c2, c3, c4, ft, tf]
    simp [rightOp, c1, c2, c3, c4]
  · simp -implicitDefEqProofs only [go_sem, Wk_block, Wk_drawnC, reduceCtorEq, Nat.reduceEqDiff, Nat.reduceAdd, Nat.reduceLeDiff, Nat.reduceLT, Nat.reduceMul, Nat.reduceSub, ↓reduceIte, Int.reduceLT, Int.reduceLE, Int.reduceNeg, Int.reduceAdd, Int.reduceEq, Nat.reduceBneDiff, Nat.reduceBEq, Int.reduceToNat, Int.reduceMul, Int.reduceSub, Int.reduceBEq, Int.reduceBNe, Int.cast_ofNat_Int, Int.toNat_natCast_add_one, Nat.add_left_cancel_iff, Nat.left_eq_add, Nat.add_eq_left, Int.toNat_natCast, Nat.add_assoc, Int.ofNat_lt, Int.ofNat_le, Nat.lt_add_one_of_lt, Nat.lt_add_one, Nat.lt_add_right, Nat.lt_add_right_iff_pos, Nat.add_lt_add_iff_left, fd47, hx.len, hx.c0, hx.c1, c1, c2, c3, c4, ft, tf]
    simp [rightOp, c1, c2, c3, c4]

/-- A row of one new cell. -/
theorem rw_one {s : St} {p : Nat} {a : AV} {lo ro : Bool} {z : Nat} (h : s.get p = some (.cells [a] lo ro z)) (c : Nat) (x : Bool) : Rw s (.slice p 0 1 c x) [a] where
  len _ := rfl
  at_ j hj := by
    have : j = 0 := by simpa using hj
    subst this
    exact ⟨p, 0, _, _, _, _, fun s' => by rw [idx1_slice (by omega)], h, rfl⟩
  cell := ⟨rfl, rfl⟩

theorem plain_run {x : Sop} {s : St} (hx : SopOk s x) (hd : ∀ b o, s.get b = some o → b < s.next) (hkl : x.keys.length ≤ 1000) :
    Wf mm 33 [.agg x.cells] s fun w s' => w = .bool (plainOp x) ∧ Fr s s' ∧ Dom s' := by
  refine Wf_enter ft33 (sm (by decide)) (by rfl) ?_
  have ft : (false == true) = false := rfl
  have tf : (true == false) = false := rfl
  have hkn := hx.keys.len
  have hwn := hx.keep.len
  simp only [List.length_map] at hkn
  have d1 : decide ((x.keys.length : Int) ≤ 64) = decide (x.keys.length ≤ 64) := by rw [Bool.eq_iff_iff]; simp; omega
  have d2 : decide ((x.keep.length : Int) ≤ 255) = decide (x.keep.length ≤ 255) := by rw [Bool.eq_iff_iff]; simp; omega
  have n1 := keeps_new hd (.cells x.cells false false 0)
  have m1 := dom_new hd (.cells x.cells false false 0)
  have g1 : (s.new (.cells x.cells false false 0)).get s.next = some (.cells x.cells false false 0) := by rw [St.get_new, if_pos rfl]
  have f1 : Fr s (s.new (.cells x.cells false false 0)) := by (repeat (first | exact FrX.refl _ _ | exact Fr.refl _ | assumption | exact Fr.x (by assumption) _ | refine FrX.put ?_ (.inl rfl) _ | refine FrX.put ?_ (.inr (by first | omega | (simp; done) | (simp; omega))) _ | refine FrX.new ?_ _ | refine Fr.put ?_ (by first | omega | (simp; done) | (simp; omega)) _ | refine Fr.new ?_ _ | refine FrX.then ?_ (by assumption) | refine Fr.trans ?_ (by assumption)))
  have k1 : SopOk (s.new (.cells x.cells false false 0)) x := hx.mono n1
  have ht : x.cells.take 25 = x.cells := List.take_of_length_le (by rw [hx.len]; omega)
  cases c1 : decide (x.keys.length ≤ 64)
  · have hb : listsOp x = false := by simp only [listsOp, c1, Bool.false_and]
    simp -implicitDefEqProofs only [go_sem, Wk_block, Wk_drawnC, reduceCtorEq, Nat.reduceEqDiff, Nat.reduceAdd, Nat.reduceLeDiff, Nat.reduceLT, Nat.reduceMul, Nat.reduceSub, ↓reduceIte, Int.reduceLT, Int.reduceLE, Int.reduceNeg, Int.reduceAdd, Int.reduceEq, Nat.reduceBneDiff, Nat.reduceBEq, Int.reduceToNat, Int.reduceMul, Int.reduceSub, Int.reduceBEq, Int.reduceBNe, Int.cast_ofNat_Int, Int.toNat_natCast_add_one, Nat.add_left_cancel_iff, Nat.left_eq_add, Nat.add_eq_left, Int.toNat_natCast, Nat.add_assoc, Int.ofNat_lt, Int.ofNat_le, Nat.lt_add_one_of_lt, Nat.lt_add_one, Nat.lt_add_right, Nat.lt_add_right_iff_pos, Nat.add_lt_add_iff_left, fd33, hx.len, hx.c3, hkn, hx.c24, hwn, d1, d2, ht, ft, tf, c1]
    refine Wl_of (Right_run k1) ?_
    rintro _ s9 ⟨rfl, rfl⟩
    cases c9 : rightOp x
    · simp -implicitDefEqProofs only [go_sem, Wk_block, Wk_drawnC, reduceCtorEq, Nat.reduceEqDiff, Nat.reduceAdd, Nat.reduceLeDiff, Nat.reduceLT, Nat.reduceMul, Nat.reduceSub, ↓reduceIte, Int.reduceLT, Int.reduceLE, Int.reduceNeg, Int.reduceAdd, Int.reduceEq, Nat.reduceBneDiff, Nat.reduceBEq, Int.reduceToNat, Int.reduceMul, Int.reduceSub, Int.reduceBEq, Int.reduceBNe, Int.cast_ofNat_Int, Int.toNat_natCast_add_one, Nat.add_left_cancel_iff, Nat.left_eq_add, Nat.add_eq_left, Int.toNat_natCast, Nat.add_assoc, Int.ofNat_lt, Int.ofNat_le, Nat.lt_add_one_of_lt, Nat.lt_add_one, Nat.lt_add_right, Nat.lt_add_right_iff_pos, Nat.add_lt_add_iff_left, c9, hx.len, ft, tf]
      exact ⟨by simp [plainOp, c9], by (repeat (first | exact FrX.refl _ _ | exact Fr.refl _ | assumption | exact Fr.x (by assumption) _ | refine FrX.put ?_ (.inl rfl) _ | refine FrX.put ?_ (.inr (by first | omega | (simp; done) | (simp; omega))) _ | refine FrX.new ?_ _ | refine Fr.put ?_ (by first | omega | (simp; done) | (simp; omega)) _ | refine Fr.new ?_ _ | refine FrX.then ?_ (by assumption) | refine Fr.trans ?_ (by assumption))), (by repeat (first | assumption | refine dom_new ?_ _))⟩
    · simp -implicitDefEqProofs only [go_sem, Wk_block, Wk_drawnC, reduceCtorEq, Nat.reduceEqDiff, Nat.reduceAdd, Nat.reduceLeDiff, Nat.reduceLT, Nat.reduceMul, Nat.reduceSub, ↓reduceIte, Int.reduceLT, Int.reduceLE, Int.reduceNeg, Int.reduceAdd, Int.reduceEq, Nat.reduceBneDiff, Nat.reduceBEq, Int.reduceToNat, Int.reduceMul, Int.reduceSub, Int.reduceBEq, Int.reduceBNe, Int.cast_ofNat_Int, Int.toNat_natCast_add_one, Nat.add_left_cancel_iff, Nat.left_eq_add, Nat.add_eq_left, Int.toNat_natCast, Nat.add_assoc, Int.ofNat_lt, Int.ofNat_le, Nat.lt_add_one_of_lt, Nat.lt_add_one, Nat.lt_add_right, Nat.lt_add_right_iff_pos, Nat.add_lt_add_iff_left, c9, hx.len, ft, tf]
      exact ⟨by simp [plainOp, hb], by (repeat (first | exact FrX.refl _ _ | exact Fr.refl _ | assumption | exact Fr.x (by assumption) _ | refine FrX.put ?_ (.inl rfl) _ | refine FrX.put ?_ (.inr (by first | omega | (simp; done) | (simp; omega))) _ | refine FrX.new ?_ _ | refine Fr.put ?_ (by first | omega | (simp; done) | (simp; omega)) _ | refine Fr.new ?_ _ | refine FrX.then ?_ (by assumption) | refine Fr.trans ?_ (by assumption))), (by repeat (first | assumption | refine dom_new ?_ _))⟩
  simp -implicitDefEqProofs only [go_sem, Wk_block, Wk_drawnC, reduceCtorEq, Nat.reduceEqDiff, Nat.reduceAdd, Nat.reduceLeDiff, Nat.reduceLT, Nat.reduceMul, Nat.reduceSub, ↓reduceIte, Int.reduceLT, Int.reduceLE, Int.reduceNeg, Int.reduceAdd, Int.reduceEq, Nat.reduceBneDiff, Nat.reduceBEq, Int.reduceToNat, Int.reduceMul, Int.reduceSub, Int.reduceBEq, Int.reduceBNe, Int.cast_ofNat_Int, Int.toNat_natCast_add_one, Nat.add_left_cancel_iff, Nat.left_eq_add, Nat.add_eq_left, Int.toNat_natCast, Nat.add_assoc, Int.ofNat_lt, Int.ofNat_le, Nat.lt_add_one_of_lt, Nat.lt_add_one, Nat.lt_add_right, Nat.lt_add_right_iff_pos, Nat.add_lt_add_iff_left, fd33, hx.len, hx.c3, hkn, hx.c24, hwn, d1, d2, ht, ft, tf, c1]
  refine Wl_of (within_run 255 k1.keys (by omega) m1) ?_
  rintro _ s2 ⟨rfl, hs2⟩
  have n2 : ∀ b o, (s.new (.cells x.cells false false 0)).get b = some o → s2.get b = some o := by rw [hs2]; exact keeps_new m1 _
  have m2 : ∀ b o, s2.get b = some o → b < s2.next := by rw [hs2]; exact dom_new m1 _
  have g2 := n2 _ _ g1
  have k2 := k1.mono n2
  have f2 : Fr s s2 := by rw [hs2]; (repeat (first | exact FrX.refl _ _ | exact Fr.refl _ | assumption | exact Fr.x (by assumption) _ | refine FrX.put ?_ (.inl rfl) _ | refine FrX.put ?_ (.inr (by first | omega | (simp; done) | (simp; omega))) _ | refine FrX.new ?_ _ | refine Fr.put ?_ (by first | omega | (simp; done) | (simp; omega)) _ | refine Fr.new ?_ _ | refine FrX.then ?_ (by assumption) | refine Fr.trans ?_ (by assumption)))
  have l2 : s.next + 2 ≤ s2.next := by rw [hs2]; simp
  clear hs2
  cases c2 : x.keys.any (bad 255)
  rotate_left
  · have hb : listsOp x = false := by simp only [listsOp, c2, Bool.not_true, Bool.and_false, Bool.false_and]
    simp -implicitDefEqProofs only [go_sem, Wk_block, Wk_drawnC, reduceCtorEq, Nat.reduceEqDiff, Nat.reduceAdd, Nat.reduceLeDiff, Nat.reduceLT, Nat.reduceMul, Nat.reduceSub, ↓reduceIte, Int.reduceLT, Int.reduceLE, Int.reduceNeg, Int.reduceAdd, Int.reduceEq, Nat.reduceBneDiff, Nat.reduceBEq, Int.reduceToNat, Int.reduceMul, Int.reduceSub, Int.reduceBEq, Int.reduceBNe, Int.cast_ofNat_Int, Int.toNat_natCast_add_one, Nat.add_left_cancel_iff, Nat.left_eq_add, Nat.add_eq_left, Int.toNat_natCast, Nat.add_assoc, Int.ofNat_lt, Int.ofNat_le, Nat.lt_add_one_of_lt, Nat.lt_add_one, Nat.lt_add_right, Nat.lt_add_right_iff_pos, Nat.add_lt_add_iff_left, c2, Bool.not_true, Bool.not_false, g2, hx.len, hx.c3, hkn, hx.c24, hwn, d1, d2, ht, ft, tf]
    refine Wl_of (Right_run k2) ?_
    rintro _ s9 ⟨rfl, rfl⟩
    cases c9 : rightOp x
    · simp -implicitDefEqProofs only [go_sem, Wk_block, Wk_drawnC, reduceCtorEq, Nat.reduceEqDiff, Nat.reduceAdd, Nat.reduceLeDiff, Nat.reduceLT, Nat.reduceMul, Nat.reduceSub, ↓reduceIte, Int.reduceLT, Int.reduceLE, Int.reduceNeg, Int.reduceAdd, Int.reduceEq, Nat.reduceBneDiff, Nat.reduceBEq, Int.reduceToNat, Int.reduceMul, Int.reduceSub, Int.reduceBEq, Int.reduceBNe, Int.cast_ofNat_Int, Int.toNat_natCast_add_one, Nat.add_left_cancel_iff, Nat.left_eq_add, Nat.add_eq_left, Int.toNat_natCast, Nat.add_assoc, Int.ofNat_lt, Int.ofNat_le, Nat.lt_add_one_of_lt, Nat.lt_add_one, Nat.lt_add_right, Nat.lt_add_right_iff_pos, Nat.add_lt_add_iff_left, c9, hx.len, ft, tf]
      exact ⟨by simp [plainOp, c9], by (repeat (first | exact FrX.refl _ _ | exact Fr.refl _ | assumption | exact Fr.x (by assumption) _ | refine FrX.put ?_ (.inl rfl) _ | refine FrX.put ?_ (.inr (by first | omega | (simp; done) | (simp; omega))) _ | refine FrX.new ?_ _ | refine Fr.put ?_ (by first | omega | (simp; done) | (simp; omega)) _ | refine Fr.new ?_ _ | refine FrX.then ?_ (by assumption) | refine Fr.trans ?_ (by assumption))), (by repeat (first | assumption | refine dom_new ?_ _))⟩
    · simp -implicitDefEqProofs only [go_sem, Wk_block, Wk_drawnC, reduceCtorEq, Nat.reduceEqDiff, Nat.reduceAdd, Nat.reduceLeDiff, Nat.reduceLT, Nat.reduceMul, Nat.reduceSub, ↓reduceIte, Int.reduceLT, Int.reduceLE, Int.reduceNeg, Int.reduceAdd, Int.reduceEq, Nat.reduceBneDiff, Nat.reduceBEq, Int.reduceToNat, Int.reduceMul, Int.reduceSub, Int.reduceBEq, Int.reduceBNe, Int.cast_ofNat_Int, Int.toNat_natCast_add_one, Nat.add_left_cancel_iff, Nat.left_eq_add, Nat.add_eq_left, Int.toNat_natCast, Nat.add_assoc, Int.ofNat_lt, Int.ofNat_le, Nat.lt_add_one_of_lt, Nat.lt_add_one, Nat.lt_add_right, Nat.lt_add_right_iff_pos, Nat.add_lt_add_iff_left, c9, hx.len, ft, tf]
      exact ⟨by simp [plainOp, hb], by (repeat (first | exact FrX.refl _ _ | exact Fr.refl _ | assumption | exact Fr.x (by assumption) _ | refine FrX.put ?_ (.inl rfl) _ | refine FrX.put ?_ (.inr (by first | omega | (simp; done) | (simp; omega))) _ | refine FrX.new ?_ _ | refine Fr.put ?_ (by first | omega | (simp; done) | (simp; omega)) _ | refine Fr.new ?_ _ | refine FrX.then ?_ (by assumption) | refine Fr.trans ?_ (by assumption))), (by repeat (first | assumption | refine dom_new ?_ _))⟩
  cases c3 : decide (x.keep.length ≤ 255)
  · have hb : listsOp x = false := by simp only [listsOp, c3, Bool.and_false]
    simp -implicitDefEqProofs only [go_sem, Wk_block, Wk_drawnC, reduceCtorEq, Nat.reduceEqDiff, Nat.reduceAdd, Nat.reduceLeDiff, Nat.reduceLT, Nat.reduceMul, Nat.reduceSub, ↓reduceIte, Int.reduceLT, Int.reduceLE, Int.reduceNeg, Int.reduceAdd, Int.reduceEq, Nat.reduceBneDiff, Nat.reduceBEq, Int.reduceToNat, Int.reduceMul, Int.reduceSub, Int.reduceBEq, Int.reduceBNe, Int.cast_ofNat_Int, Int.toNat_natCast_add_one, Nat.add_left_cancel_iff, Nat.left_eq_add, Nat.add_eq_left, Int.toNat_natCast, Nat.add_assoc, Int.ofNat_lt, Int.ofNat_le, Nat.lt_add_one_of_lt, Nat.lt_add_one, Nat.lt_add_right, Nat.lt_add_right_iff_pos, Nat.add_lt_add_iff_left, c2, c3, Bool.not_true, Bool.not_false, g2, hx.len, hx.c3, hkn, hx.c24, hwn, d1, d2, ht, ft, tf]
    refine Wl_of (Right_run k2) ?_
    rintro _ s9 ⟨rfl, rfl⟩
    cases c9 : rightOp x
    · simp -implicitDefEqProofs only [go_sem, Wk_block, Wk_drawnC, reduceCtorEq, Nat.reduceEqDiff, Nat.reduceAdd, Nat.reduceLeDiff, Nat.reduceLT, Nat.reduceMul, Nat.reduceSub, ↓reduceIte, Int.reduceLT, Int.reduceLE, Int.reduceNeg, Int.reduceAdd, Int.reduceEq, Nat.reduceBneDiff, Nat.reduceBEq, Int.reduceToNat, Int.reduceMul, Int.reduceSub, Int.reduceBEq, Int.reduceBNe, Int.cast_ofNat_Int, Int.toNat_natCast_add_one, Nat.add_left_cancel_iff, Nat.left_eq_add, Nat.add_eq_left, Int.toNat_natCast, Nat.add_assoc, Int.ofNat_lt, Int.ofNat_le, Nat.lt_add_one_of_lt, Nat.lt_add_one, Nat.lt_add_right, Nat.lt_add_right_iff_pos, Nat.add_lt_add_iff_left, c9, hx.len, ft, tf]
      exact ⟨by simp [plainOp, c9], by (repeat (first | exact FrX.refl _ _ | exact Fr.refl _ | assumption | exact Fr.x (by assumption) _ | refine FrX.put ?_ (.inl rfl) _ | refine FrX.put ?_ (.inr (by first | omega | (simp; done) | (simp; omega))) _ | refine FrX.new ?_ _ | refine Fr.put ?_ (by first | omega | (simp; done) | (simp; omega)) _ | refine Fr.new ?_ _ | refine FrX.then ?_ (by assumption) | refine Fr.trans ?_ (by assumption))), (by repeat (first | assumption | refine dom_new ?_ _))⟩
    · simp -implicitDefEqProofs only [go_sem, Wk_block, Wk_drawnC, reduceCtorEq, Nat.reduceEqDiff, Nat.reduceAdd, Nat.reduceLeDiff, Nat.reduceLT, Nat.reduceMul, Nat.reduceSub, ↓reduceIte, Int.reduceLT, Int.reduceLE, Int.reduceNeg, Int.reduceAdd, Int.reduceEq, Nat.reduceBneDiff, Nat.reduceBEq, Int.reduceToNat, Int.reduceMul, Int.reduceSub, Int.reduceBEq, Int.reduceBNe, Int.cast_ofNat_Int, Int.toNat_natCast_add_one, Nat.add_left_cancel_iff, Nat.left_eq_add, Nat.add_eq_left, Int.toNat_natCast, Nat.add_assoc, Int.ofNat_lt, Int.ofNat_le, Nat.lt_add_one_of_lt, Nat.lt_add_one, Nat.lt_add_right, Nat.lt_add_right_iff_pos, Nat.add_lt_add_iff_left, c9, hx.len, ft, tf]
      exact ⟨by simp [plainOp, hb], by (repeat (first | exact FrX.refl _ _ | exact Fr.refl _ | assumption | exact Fr.x (by assumption) _ | refine FrX.put ?_ (.inl rfl) _ | refine FrX.put ?_ (.inr (by first | omega | (simp; done) | (simp; omega))) _ | refine FrX.new ?_ _ | refine Fr.put ?_ (by first | omega | (simp; done) | (simp; omega)) _ | refine Fr.new ?_ _ | refine FrX.then ?_ (by assumption) | refine Fr.trans ?_ (by assumption))), (by repeat (first | assumption | refine dom_new ?_ _))⟩
  have hb : listsOp x = true := by simp only [listsOp, c1, c2, c3, Bool.not_false, Bool.and_true]
  simp -implicitDefEqProofs only [go_sem, Wk_block, Wk_drawnC, reduceCtorEq, Nat.reduceEqDiff, Nat.reduceAdd, Nat.reduceLeDiff, Nat.reduceLT, Nat.reduceMul, Nat.reduceSub, ↓reduceIte, Int.reduceLT, Int.reduceLE, Int.reduceNeg, Int.reduceAdd, Int.reduceEq, Nat.reduceBneDiff, Nat.reduceBEq, Int.reduceToNat, Int.reduceMul, Int.reduceSub, Int.reduceBEq, Int.reduceBNe, Int.cast_ofNat_Int, Int.toNat_natCast_add_one, Nat.add_left_cancel_iff, Nat.left_eq_add, Nat.add_eq_left, Int.toNat_natCast, Nat.add_assoc, Int.ofNat_lt, Int.ofNat_le, Nat.lt_add_one_of_lt, Nat.lt_add_one, Nat.lt_add_right, Nat.lt_add_right_iff_pos, Nat.add_lt_add_iff_left, c2, c3, Bool.not_true, Bool.not_false, g2, hx.len, hx.c3, hkn, hx.c24, hwn, d1, d2, ht, ft, tf]
  refine Wl_of (Right_run k2) ?_
  rintro _ s3 ⟨rfl, hs3⟩
  have n3 : ∀ b o, s2.get b = some o → s3.get b = some o := by rw [hs3]; exact keeps_new m2 _
  have m3 : ∀ b o, s3.get b = some o → b < s3.next := by rw [hs3]; exact dom_new m2 _
  have g3 := n3 _ _ g2
  have f3 : Fr s s3 := by rw [hs3]; exact f2.trans (by (repeat (first | exact FrX.refl _ _ | exact Fr.refl _ | assumption | exact Fr.x (by assumption) _ | refine FrX.put ?_ (.inl rfl) _ | refine FrX.put ?_ (.inr (by first | omega | (simp; done) | (simp; omega))) _ | refine FrX.new ?_ _ | refine Fr.put ?_ (by first | omega | (simp; done) | (simp; omega)) _ | refine Fr.new ?_ _ | refine FrX.then ?_ (by assumption) | refine Fr.trans ?_ (by assumption))))
  clear hs3
  cases c4 : rightOp x
  · simp -implicitDefEqProofs only [go_sem, Wk_block, Wk_drawnC, reduceCtorEq, Nat.reduceEqDiff, Nat.reduceAdd, Nat.reduceLeDiff, Nat.reduceLT, Nat.reduceMul, Nat.reduceSub, ↓reduceIte, Int.reduceLT, Int.reduceLE, Int.reduceNeg, Int.reduceAdd, Int.reduceEq, Nat.reduceBneDiff, Nat.reduceBEq, Int.reduceToNat, Int.reduceMul, Int.reduceSub, Int.reduceBEq, Int.reduceBNe, Int.cast_ofNat_Int, Int.toNat_natCast_add_one, Nat.add_left_cancel_iff, Nat.left_eq_add, Nat.add_eq_left, Int.toNat_natCast, Nat.add_assoc, Int.ofNat_lt, Int.ofNat_le, Nat.lt_add_one_of_lt, Nat.lt_add_one, Nat.lt_add_right, Nat.lt_add_right_iff_pos, Nat.add_lt_add_iff_left, c4, hx.len, ft, tf]
    exact ⟨by simp [plainOp, c4], f3, m3⟩
  simp -implicitDefEqProofs only [go_sem, Wk_block, Wk_drawnC, reduceCtorEq, Nat.reduceEqDiff, Nat.reduceAdd, Nat.reduceLeDiff, Nat.reduceLT, Nat.reduceMul, Nat.reduceSub, ↓reduceIte, Int.reduceLT, Int.reduceLE, Int.reduceNeg, Int.reduceAdd, Int.reduceEq, Nat.reduceBneDiff, Nat.reduceBEq, Int.reduceToNat, Int.reduceMul, Int.reduceSub, Int.reduceBEq, Int.reduceBNe, Int.cast_ofNat_Int, Int.toNat_natCast_add_one, Nat.add_left_cancel_iff, Nat.left_eq_add, Nat.add_eq_left, Int.toNat_natCast, Nat.add_assoc, Int.ofNat_lt, Int.ofNat_le, Nat.lt_add_one_of_lt, Nat.lt_add_one, Nat.lt_add_right, Nat.lt_add_right_iff_pos, Nat.add_lt_add_iff_left, c4, g3, hx.len, hx.c2, ft, tf]
  refine Wl_of (within_run (L := [x.key]) 255 (rw_one (by rw [St.get_new, if_pos rfl]) 1 false) (by simp) (dom_new m3 _)) ?_
  rintro _ s4 ⟨rfl, hs4⟩
  have g4 : s4.get s.next = some (.cells x.cells false false 0) := by rw [hs4]; exact keeps_new (dom_new m3 _) _ _ _ (keeps_new m3 _ _ _ g3)
  have f4 : Fr s s4 := by rw [hs4]; exact f3.trans (by (repeat (first | exact FrX.refl _ _ | exact Fr.refl _ | assumption | exact Fr.x (by assumption) _ | refine FrX.put ?_ (.inl rfl) _ | refine FrX.put ?_ (.inr (by first | omega | (simp; done) | (simp; omega))) _ | refine FrX.new ?_ _ | refine Fr.put ?_ (by first | omega | (simp; done) | (simp; omega)) _ | refine Fr.new ?_ _ | refine FrX.then ?_ (by assumption) | refine Fr.trans ?_ (by assumption))))
  have m4 : Dom s4 := by rw [hs4]; exact dom_new (dom_new m3 _) _
  clear hs4
  have hany : [x.key].any (bad 255) = bad 255 x.key := by simp
  cases c5 : bad 255 x.key
  rotate_left
  · simp -implicitDefEqProofs only [go_sem, Wk_block, Wk_drawnC, reduceCtorEq, Nat.reduceEqDiff, Nat.reduceAdd, Nat.reduceLeDiff, Nat.reduceLT, Nat.reduceMul, Nat.reduceSub, ↓reduceIte, Int.reduceLT, Int.reduceLE, Int.reduceNeg, Int.reduceAdd, Int.reduceEq, Nat.reduceBneDiff, Nat.reduceBEq, Int.reduceToNat, Int.reduceMul, Int.reduceSub, Int.reduceBEq, Int.reduceBNe, Int.cast_ofNat_Int, Int.toNat_natCast_add_one, Nat.add_left_cancel_iff, Nat.left_eq_add, Nat.add_eq_left, Int.toNat_natCast, Nat.add_assoc, Int.ofNat_lt, Int.ofNat_le, Nat.lt_add_one_of_lt, Nat.lt_add_one, Nat.lt_add_right, Nat.lt_add_right_iff_pos, Nat.add_lt_add_iff_left, hany, c5, Bool.not_true, Bool.not_false, ft, tf]
    exact ⟨by simp [plainOp, c5], f4, m4⟩
  cases c6 : decide (x.at_ ≥ -1)
  · simp -implicitDefEqProofs only [go_sem, Wk_block, Wk_drawnC, reduceCtorEq, Nat.reduceEqDiff, Nat.reduceAdd, Nat.reduceLeDiff, Nat.reduceLT, Nat.reduceMul, Nat.reduceSub, ↓reduceIte, Int.reduceLT, Int.reduceLE, Int.reduceNeg, Int.reduceAdd, Int.reduceEq, Nat.reduceBneDiff, Nat.reduceBEq, Int.reduceToNat, Int.reduceMul, Int.reduceSub, Int.reduceBEq, Int.reduceBNe, Int.cast_ofNat_Int, Int.toNat_natCast_add_one, Nat.add_left_cancel_iff, Nat.left_eq_add, Nat.add_eq_left, Int.toNat_natCast, Nat.add_assoc, Int.ofNat_lt, Int.ofNat_le, Nat.lt_add_one_of_lt, Nat.lt_add_one, Nat.lt_add_right, Nat.lt_add_right_iff_pos, Nat.add_lt_add_iff_left, hany, c5, c6, g4, hx.len, hx.c22, Bool.not_true, Bool.not_false, ft, tf]
    exact ⟨by simp [plainOp, c6], f4, m4⟩
  cases c7 : decide (x.at_ < 65535)
  · simp -implicitDefEqProofs only [go_sem, Wk_block, Wk_drawnC, reduceCtorEq, Nat.reduceEqDiff, Nat.reduceAdd, Nat.reduceLeDiff, Nat.reduceLT, Nat.reduceMul, Nat.reduceSub, ↓reduceIte, Int.reduceLT, Int.reduceLE, Int.reduceNeg, Int.reduceAdd, Int.reduceEq, Nat.reduceBneDiff, Nat.reduceBEq, Int.reduceToNat, Int.reduceMul, Int.reduceSub, Int.reduceBEq, Int.reduceBNe, Int.cast_ofNat_Int, Int.toNat_natCast_add_one, Nat.add_left_cancel_iff, Nat.left_eq_add, Nat.add_eq_left, Int.toNat_natCast, Nat.add_assoc, Int.ofNat_lt, Int.ofNat_le, Nat.lt_add_one_of_lt, Nat.lt_add_one, Nat.lt_add_right, Nat.lt_add_right_iff_pos, Nat.add_lt_add_iff_left, hany, c5, c6, c7, g4, hx.len, hx.c22, Bool.not_true, Bool.not_false, ft, tf]
    exact ⟨by simp [plainOp, c7], f4, m4⟩
  · simp -implicitDefEqProofs only [go_sem, Wk_block, Wk_drawnC, reduceCtorEq, Nat.reduceEqDiff, Nat.reduceAdd, Nat.reduceLeDiff, Nat.reduceLT, Nat.reduceMul, Nat.reduceSub, ↓reduceIte, Int.reduceLT, Int.reduceLE, Int.reduceNeg, Int.reduceAdd, Int.reduceEq, Nat.reduceBneDiff, Nat.reduceBEq, Int.reduceToNat, Int.reduceMul, Int.reduceSub, Int.reduceBEq, Int.reduceBNe, Int.cast_ofNat_Int, Int.toNat_natCast_add_one, Nat.add_left_cancel_iff, Nat.left_eq_add, Nat.add_eq_left, Int.toNat_natCast, Nat.add_assoc, Int.ofNat_lt, Int.ofNat_le, Nat.lt_add_one_of_lt, Nat.lt_add_one, Nat.lt_add_right, Nat.lt_add_right_iff_pos, Nat.add_lt_add_iff_left, hany, c5, c6, c7, g4, hx.len, hx.c22, Bool.not_true, Bool.not_false, ft, tf]
    exact ⟨by simp [plainOp, hb, c4, c5, c6, c7], f4, m4⟩
end Go.Proofs.YteiiblpnegjjlaaGreat.Lw
namespace Go.Proofs.YteiiblpnegjjlaaGreat.Lw
open D
set_option linter.unusedSimpArgs false
set_option linter.unusedVariables false
set_option maxRecDepth 10000

theorem PlainC_run {x : Sop} {s : St} (hx : SopOk s x) (hd : Dom s) (hkl : x.keys.length ≤ 1000) :
    Wf mm 32 [.agg x.cells] s fun w s' => w = .bool (!plainOp x) ∧ Fr s s' ∧ Dom s' := by
  refine Wf_enter ft32 (sm (by decide)) (by rfl) ?_
  have ht : x.cells.take 25 = x.cells := List.take_of_length_le (by rw [hx.len]; omega)
  have hn := keeps_new hd (.cells x.cells false false 0)
  have hd2 := dom_new hd (.cells x.cells false false 0)
  have f1 : Fr s (s.new (.cells x.cells false false 0)) := by (repeat (first | exact FrX.refl _ _ | exact Fr.refl _ | assumption | exact Fr.x (by assumption) _ | refine FrX.put ?_ (.inl rfl) _ | refine FrX.put ?_ (.inr (by first | omega | (simp; done) | (simp; omega))) _ | refine FrX.new ?_ _ | refine Fr.put ?_ (by first | omega | (simp; done) | (simp; omega)) _ | refine Fr.new ?_ _ | refine FrX.then ?_ (by assumption) | refine Fr.trans ?_ (by assumption)))
  simp -implicitDefEqProofs only [go_sem, Wk_block, Wk_drawnC, reduceCtorEq, Nat.reduceEqDiff, Nat.reduceAdd, Nat.reduceLeDiff, Nat.reduceLT, Nat.reduceMul, Nat.reduceSub, ↓reduceIte, Int.reduceLT, Int.reduceLE, Int.reduceNeg, Int.reduceAdd, Int.reduceEq, Nat.reduceBneDiff, Nat.reduceBEq, Int.reduceToNat, Int.reduceMul, Int.reduceSub, Int.reduceBEq, Int.reduceBNe, Int.cast_ofNat_Int, Int.toNat_natCast_add_one, Nat.add_left_cancel_iff, Nat.left_eq_add, Nat.add_eq_left, Int.toNat_natCast, Nat.add_assoc, Int.ofNat_lt, Int.ofNat_le, Nat.lt_add_one_of_lt, Nat.lt_add_one, Nat.lt_add_right, Nat.lt_add_right_iff_pos, Nat.add_lt_add_iff_left, fd32, hx.len, ht]
  refine Wl_of (plain_run (hx.mono hn) hd2 hkl) ?_
  rintro _ s2 ⟨rfl, f2, d2⟩
  simp -implicitDefEqProofs only [go_sem, Wk_block, Wk_drawnC, reduceCtorEq, Nat.reduceEqDiff, Nat.reduceAdd, Nat.reduceLeDiff, Nat.reduceLT, Nat.reduceMul, Nat.reduceSub, ↓reduceIte, Int.reduceLT, Int.reduceLE, Int.reduceNeg, Int.reduceAdd, Int.reduceEq, Nat.reduceBneDiff, Nat.reduceBEq, Int.reduceToNat, Int.reduceMul, Int.reduceSub, Int.reduceBEq, Int.reduceBNe, Int.cast_ofNat_Int, Int.toNat_natCast_add_one, Nat.add_left_cancel_iff, Nat.left_eq_add, Nat.add_eq_left, Int.toNat_natCast, Nat.add_assoc, Int.ofNat_lt, Int.ofNat_le, Nat.lt_add_one_of_lt, Nat.lt_add_one, Nat.lt_add_right, Nat.lt_add_right_iff_pos, Nat.add_lt_add_iff_left, ht]
  exact ⟨f1.trans f2, d2⟩

theorem fr_keeps {s s' : St} (f : Fr s s') (hd : Dom s) : ∀ b o, s.get b = some o → s'.get b = some o := fun b o h => (f.get b (hd b o h)).trans h

theorem IndexO_run (l : List Sop) {v : AV} {s : St} (hA : RdS s v l) (hl : ∀ x ∈ l, SopOk s x) (hk : ∀ x ∈ l, x.keys.length ≤ 1000) (hd : Dom s) (hL : l.length < 1000000000) :
    Wf mm 46 [v, .fn (.func 32) [] []] s fun w s' => (∃ r : Int, w = .int .i64 r ∧ decide (r ≥ 0) = l.any (fun x => !plainOp x)) ∧ Fr s s' ∧ Dom s' := by
  refine Wf_enter ft46 (sm (by decide)) (by rfl) ?_
  have ft : (false == true) = false := rfl
  have tf : (true == false) = false := rfl
  have hlen := hA.len
  simp -implicitDefEqProofs only [go_sem, Wk_block, Wk_drawnC, reduceCtorEq, Nat.reduceEqDiff, Nat.reduceAdd, Nat.reduceLeDiff, Nat.reduceLT, Nat.reduceMul, Nat.reduceSub, ↓reduceIte, Int.reduceLT, Int.reduceLE, Int.reduceNeg, Int.reduceAdd, Int.reduceEq, Nat.reduceBneDiff, Nat.reduceBEq, Int.reduceToNat, Int.reduceMul, Int.reduceSub, Int.reduceBEq, Int.reduceBNe, Int.cast_ofNat_Int, Int.toNat_natCast_add_one, Nat.add_left_cancel_iff, Nat.left_eq_add, Nat.add_eq_left, Int.toNat_natCast, Nat.add_assoc, Int.ofNat_lt, Int.ofNat_le, Nat.lt_add_one_of_lt, Nat.lt_add_one, Nat.lt_add_right, Nat.lt_add_right_iff_pos, Nat.add_lt_add_iff_left, fd46, hlen]
  refine loop_ind (fun m ts s' => ∃ j : Nat, m = l.length - j ∧ j ≤ l.length ∧ ts.get 8 = some (.int .i64 (j : Int)) ∧ ts.get 7 = some (.int .i64 (l.length : Int)) ∧ ts.get 0 = some v ∧ ts.get 1 = some (.fn (.func 32) [] []) ∧ (l.take j).any (fun x => !plainOp x) = false ∧ Fr s s' ∧ Dom s') ?_ (n := l.length)
    ⟨0, rfl, by omega, by simp only [Tr.get_set, Nat.reduceEqDiff, ↓reduceIte, Int.cast_ofNat_Int], by simp only [Tr.get_set, Nat.reduceEqDiff, ↓reduceIte, Int.cast_ofNat_Int], by simp only [Tr.get_set, Nat.reduceEqDiff, ↓reduceIte, Int.cast_ofNat_Int], by simp only [Tr.get_set, Nat.reduceEqDiff, ↓reduceIte, Int.cast_ofNat_Int], rfl, Fr.refl s, hd⟩
  rintro m ts s1 ⟨j, rfl, hj, g8, g7, g0, g1, hpre, f, dd⟩ IH
  by_cases hlt : j < l.length
  · have hA1 := hA.mono f
    obtain ⟨b, o, vs, lo, ro, z, hidx, hv, hbl, hle, he⟩ := hA1.at_ j hlt
    have hok := (hl l[j] (List.getElem_mem hlt)).mono (fr_keeps f hd)
    have hk1 := hk l[j] (List.getElem_mem hlt)
    have htk : (l.take (j + 1)).any (fun x => !plainOp x) = !plainOp l[j] := by
      rw [List.take_succ_eq_append_getElem hlt, List.any_append, hpre]
      simp
    have hmem : l[j] ∈ l := List.getElem_mem hlt
    generalize l[j] = x at he hok htk hmem hk1
    have wj := succ_in (j := j) (by omega)
    simp -implicitDefEqProofs only [go_sem, Wk_block, Wk_drawnC, reduceCtorEq, Nat.reduceEqDiff, Nat.reduceAdd, Nat.reduceLeDiff, Nat.reduceLT, Nat.reduceMul, Nat.reduceSub, ↓reduceIte, Int.reduceLT, Int.reduceLE, Int.reduceNeg, Int.reduceAdd, Int.reduceEq, Nat.reduceBneDiff, Nat.reduceBEq, Int.reduceToNat, Int.reduceMul, Int.reduceSub, Int.reduceBEq, Int.reduceBNe, Int.cast_ofNat_Int, Int.toNat_natCast_add_one, Nat.add_left_cancel_iff, Nat.left_eq_add, Nat.add_eq_left, Int.toNat_natCast, Nat.add_assoc, Int.ofNat_lt, Int.ofNat_le, Nat.lt_add_one_of_lt, Nat.lt_add_one, Nat.lt_add_right, Nat.lt_add_right_iff_pos, Nat.add_lt_add_iff_left, g8, g7, g0, g1, hlt, hidx, hv, hle, he, ft, tf]
    refine Wl_of (PlainC_run hok dd hk1) ?_
    rintro _ s2 ⟨rfl, f2, d2⟩
    cases c1 : plainOp x
    · have hb : l.any (fun x => !plainOp x) = true := List.any_eq_true.2 ⟨x, hmem, by rw [c1]; rfl⟩
      simp -implicitDefEqProofs only [go_sem, Wk_block, Wk_drawnC, reduceCtorEq, Nat.reduceEqDiff, Nat.reduceAdd, Nat.reduceLeDiff, Nat.reduceLT, Nat.reduceMul, Nat.reduceSub, ↓reduceIte, Int.reduceLT, Int.reduceLE, Int.reduceNeg, Int.reduceAdd, Int.reduceEq, Nat.reduceBneDiff, Nat.reduceBEq, Int.reduceToNat, Int.reduceMul, Int.reduceSub, Int.reduceBEq, Int.reduceBNe, Int.cast_ofNat_Int, Int.toNat_natCast_add_one, Nat.add_left_cancel_iff, Nat.left_eq_add, Nat.add_eq_left, Int.toNat_natCast, Nat.add_assoc, Int.ofNat_lt, Int.ofNat_le, Nat.lt_add_one_of_lt, Nat.lt_add_one, Nat.lt_add_right, Nat.lt_add_right_iff_pos, Nat.add_lt_add_iff_left, g8, g7, g0, g1, Bool.not_true, Bool.not_false, ft, tf]
      exact ⟨⟨_, rfl, by rw [hb]; simp⟩, f.trans f2, d2⟩
    · simp -implicitDefEqProofs only [go_sem, Wk_block, Wk_drawnC, reduceCtorEq, Nat.reduceEqDiff, Nat.reduceAdd, Nat.reduceLeDiff, Nat.reduceLT, Nat.reduceMul, Nat.reduceSub, ↓reduceIte, Int.reduceLT, Int.reduceLE, Int.reduceNeg, Int.reduceAdd, Int.reduceEq, Nat.reduceBneDiff, Nat.reduceBEq, Int.reduceToNat, Int.reduceMul, Int.reduceSub, Int.reduceBEq, Int.reduceBNe, Int.cast_ofNat_Int, Int.toNat_natCast_add_one, Nat.add_left_cancel_iff, Nat.left_eq_add, Nat.add_eq_left, Int.toNat_natCast, Nat.add_assoc, Int.ofNat_lt, Int.ofNat_le, Nat.lt_add_one_of_lt, Nat.lt_add_one, Nat.lt_add_right, Nat.lt_add_right_iff_pos, Nat.add_lt_add_iff_left, g8, g7, g0, g1, Bool.not_true, Bool.not_false, wj, ft, tf]
      refine IH (l.length - (j + 1)) _ _ (by omega) ⟨j + 1, rfl, by omega, ?_, ?_, ?_, ?_, by rw [htk, c1]; rfl, f.trans f2, d2⟩
      · simp only [Tr.get_set, Nat.reduceEqDiff, ↓reduceIte, Int.cast_ofNat_Int]
      · simp only [Tr.get_set, Nat.reduceEqDiff, ↓reduceIte, Int.cast_ofNat_Int, g7]
      · simp only [Tr.get_set, Nat.reduceEqDiff, ↓reduceIte, Int.cast_ofNat_Int, g0]
      · simp only [Tr.get_set, Nat.reduceEqDiff, ↓reduceIte, Int.cast_ofNat_Int, g1]
  · have : j = l.length := by omega
    subst this
    rw [List.take_length] at hpre
    have hlf : decide ((l.length : Int) < (l.length : Int)) = false := decide_eq_false (by omega)
    simp -implicitDefEqProofs only [go_sem, Wk_block, Wk_drawnC, reduceCtorEq, Nat.reduceEqDiff, Nat.reduceAdd, Nat.reduceLeDiff, Nat.reduceLT, Nat.reduceMul, Nat.reduceSub, ↓reduceIte, Int.reduceLT, Int.reduceLE, Int.reduceNeg, Int.reduceAdd, Int.reduceEq, Nat.reduceBneDiff, Nat.reduceBEq, Int.reduceToNat, Int.reduceMul, Int.reduceSub, Int.reduceBEq, Int.reduceBNe, Int.cast_ofNat_Int, Int.toNat_natCast_add_one, Nat.add_left_cancel_iff, Nat.left_eq_add, Nat.add_eq_left, Int.toNat_natCast, Nat.add_assoc, Int.ofNat_lt, Int.ofNat_le, Nat.lt_add_one_of_lt, Nat.lt_add_one, Nat.lt_add_right, Nat.lt_add_right_iff_pos, Nat.add_lt_add_iff_left, g8, g7, hlf, hlt, g0, g1]
    exact ⟨⟨_, rfl, by rw [hpre]; rfl⟩, f, dd⟩

theorem ContainsO_run (l : List Sop) {v : AV} {s : St} (hA : RdS s v l) (hl : ∀ x ∈ l, SopOk s x) (hk : ∀ x ∈ l, x.keys.length ≤ 1000) (hd : Dom s) (hL : l.length < 1000000000) :
    Wf mm 31 [v, .fn (.func 32) [] []] s fun w s' => w = .bool (l.any (fun x => !plainOp x)) ∧ Fr s s' ∧ Dom s' := by
  refine Wf_enter ft31 (sm (by decide)) (by rfl) ?_
  have ft : (false == true) = false := rfl
  have tf : (true == false) = false := rfl
  simp -implicitDefEqProofs only [go_sem, Wk_block, Wk_drawnC, reduceCtorEq, Nat.reduceEqDiff, Nat.reduceAdd, Nat.reduceLeDiff, Nat.reduceLT, Nat.reduceMul, Nat.reduceSub, ↓reduceIte, Int.reduceLT, Int.reduceLE, Int.reduceNeg, Int.reduceAdd, Int.reduceEq, Nat.reduceBneDiff, Nat.reduceBEq, Int.reduceToNat, Int.reduceMul, Int.reduceSub, Int.reduceBEq, Int.reduceBNe, Int.cast_ofNat_Int, Int.toNat_natCast_add_one, Nat.add_left_cancel_iff, Nat.left_eq_add, Nat.add_eq_left, Int.toNat_natCast, Nat.add_assoc, Int.ofNat_lt, Int.ofNat_le, Nat.lt_add_one_of_lt, Nat.lt_add_one, Nat.lt_add_right, Nat.lt_add_right_iff_pos, Nat.add_lt_add_iff_left, fd31, ft, tf]
  refine Wl_of (IndexO_run l hA hl hk hd hL) ?_
  rintro _ s' ⟨⟨r, rfl, hr⟩, f, dd⟩
  simp -implicitDefEqProofs only [go_sem, Wk_block, Wk_drawnC, reduceCtorEq, Nat.reduceEqDiff, Nat.reduceAdd, Nat.reduceLeDiff, Nat.reduceLT, Nat.reduceMul, Nat.reduceSub, ↓reduceIte, Int.reduceLT, Int.reduceLE, Int.reduceNeg, Int.reduceAdd, Int.reduceEq, Nat.reduceBneDiff, Nat.reduceBEq, Int.reduceToNat, Int.reduceMul, Int.reduceSub, Int.reduceBEq, Int.reduceBNe, Int.cast_ofNat_Int, Int.toNat_natCast_add_one, Nat.add_left_cancel_iff, Nat.left_eq_add, Nat.add_eq_left, Int.toNat_natCast, Nat.add_assoc, Int.ofNat_lt, Int.ofNat_le, Nat.lt_add_one_of_lt, Nat.lt_add_one, Nat.lt_add_right, Nat.lt_add_right_iff_pos, Nat.add_lt_add_iff_left, hr, ft, tf]
  exact ⟨f, dd⟩
end Go.Proofs.YteiiblpnegjjlaaGreat.Lw
namespace Go.Proofs.YteiiblpnegjjlaaGreat.Lw
open D
set_option linter.unusedSimpArgs false
set_option linter.unusedVariables false
set_option maxRecDepth 10000

/-- The settings of a pair. -/
structure Cfg where
  pages : Int
  every : Nat
  span : Nat
  last : Int
  spans : Int
  chunk : Int
  retry : Int
def Cfg.enc (c : Cfg) : List AV := [.int .i64 c.pages, .int .u32 (c.every : Int), .int .u32 (c.span : Int), .int .i64 c.last, .int .i64 c.spans, .int .i64 c.chunk, .int .i64 c.retry]
def Cfg.nums (c : Cfg) : List Int := [c.pages, c.last, c.spans, c.chunk, c.retry]
/-- A script that can be. -/
def plainS (c : Cfg) (l : List Sop) : Bool := !(decide (400 < l.length) || l.any (fun x => !plainOp x)) && !c.nums.any (bad 65535)

theorem rw_row {s : St} {p : Nat} {l : List AV} {lo ro : Bool} {z n : Nat} (h : s.get p = some (.cells l lo ro z)) (hn : l.length = n) (c : Nat) (x : Bool) : Rw s (.slice p 0 n c x) l where
  len _ := by subst hn; rfl
  at_ j hj := ⟨p, 0, _, _, _, _, fun s' => by rw [idx1_slice (by omega), Nat.mul_one], h, by rw [Nat.zero_add, List.getElem?_eq_getElem hj]⟩
  cell := ⟨rfl, rfl⟩

theorem PlainS_run (c : Cfg) (l : List Sop) {v : AV} {s : St} (hA : RdS s v l) (hl : ∀ x ∈ l, SopOk s x) (hk : ∀ x ∈ l, x.keys.length ≤ 1000) (hd : Dom s) (hL : l.length < 1000000000) :
    Wf mm 15 [.agg c.enc, v] s fun w s' => w = .bool (plainS c l) ∧ Fr s s' ∧ Dom s' := by
  refine Wf_enter ft15 (sm (by decide)) (by rfl) ?_
  have ft : (false == true) = false := rfl
  have tf : (true == false) = false := rfl
  have hlen := hA.len
  have hn := keeps_new hd (.cells c.enc false false 0)
  have hd2 := dom_new hd (.cells c.enc false false 0)
  have f1 : Fr s (s.new (.cells c.enc false false 0)) := by (repeat (first | exact FrX.refl _ _ | exact Fr.refl _ | assumption | exact Fr.x (by assumption) _ | refine FrX.put ?_ (.inl rfl) _ | refine FrX.put ?_ (.inr (by first | omega | (simp; done) | (simp; omega))) _ | refine FrX.new ?_ _ | refine Fr.put ?_ (by first | omega | (simp; done) | (simp; omega)) _ | refine Fr.new ?_ _ | refine FrX.then ?_ (by assumption) | refine Fr.trans ?_ (by assumption)))
  have g1 : (s.new (.cells c.enc false false 0)).get s.next = some (.cells c.enc false false 0) := by rw [St.get_new, if_pos rfl]
  have d1 : decide ((l.length : Int) > 400) = decide (400 < l.length) := by rw [Bool.eq_iff_iff]; simp; omega
  cases c1 : decide (400 < l.length)
  rotate_left
  · simp -implicitDefEqProofs only [go_sem, Wk_block, Wk_drawnC, reduceCtorEq, Nat.reduceEqDiff, Nat.reduceAdd, Nat.reduceLeDiff, Nat.reduceLT, Nat.reduceMul, Nat.reduceSub, ↓reduceIte, Int.reduceLT, Int.reduceLE, Int.reduceNeg, Int.reduceAdd, Int.reduceEq, Nat.reduceBneDiff, Nat.reduceBEq, Int.reduceToNat, Int.reduceMul, Int.reduceSub, Int.reduceBEq, Int.reduceBNe, Int.cast_ofNat_Int, Int.toNat_natCast_add_one, Nat.add_left_cancel_iff, Nat.left_eq_add, Nat.add_eq_left, Int.toNat_natCast, Nat.add_assoc, Int.ofNat_lt, Int.ofNat_le, Nat.lt_add_one_of_lt, Nat.lt_add_one, Nat.lt_add_right, Nat.lt_add_right_iff_pos, Nat.add_lt_add_iff_left, fd15, hlen, d1, c1, ft, tf]
    exact ⟨by simp [plainS, c1], f1, hd2⟩
  simp -implicitDefEqProofs only [go_sem, Wk_block, Wk_drawnC, reduceCtorEq, Nat.reduceEqDiff, Nat.reduceAdd, Nat.reduceLeDiff, Nat.reduceLT, Nat.reduceMul, Nat.reduceSub, ↓reduceIte, Int.reduceLT, Int.reduceLE, Int.reduceNeg, Int.reduceAdd, Int.reduceEq, Nat.reduceBneDiff, Nat.reduceBEq, Int.reduceToNat, Int.reduceMul, Int.reduceSub, Int.reduceBEq, Int.reduceBNe, Int.cast_ofNat_Int, Int.toNat_natCast_add_one, Nat.add_left_cancel_iff, Nat.left_eq_add, Nat.add_eq_left, Int.toNat_natCast, Nat.add_assoc, Int.ofNat_lt, Int.ofNat_le, Nat.lt_add_one_of_lt, Nat.lt_add_one, Nat.lt_add_right, Nat.lt_add_right_iff_pos, Nat.add_lt_add_iff_left, fd15, hlen, d1, c1, ft, tf]
  refine Wl_of (ContainsO_run l (hA.mono f1) (fun x hx => (hl x hx).mono hn) hk hd2 hL) ?_
  rintro _ s2 ⟨rfl, f2, d2⟩
  have g2 := (fr_keeps f2 hd2) _ _ g1
  unfold Cfg.enc at g2
  cases c2 : l.any (fun x => !plainOp x)
  rotate_left
  · simp -implicitDefEqProofs only [go_sem, Wk_block, Wk_drawnC, reduceCtorEq, Nat.reduceEqDiff, Nat.reduceAdd, Nat.reduceLeDiff, Nat.reduceLT, Nat.reduceMul, Nat.reduceSub, ↓reduceIte, Int.reduceLT, Int.reduceLE, Int.reduceNeg, Int.reduceAdd, Int.reduceEq, Nat.reduceBneDiff, Nat.reduceBEq, Int.reduceToNat, Int.reduceMul, Int.reduceSub, Int.reduceBEq, Int.reduceBNe, Int.cast_ofNat_Int, Int.toNat_natCast_add_one, Nat.add_left_cancel_iff, Nat.left_eq_add, Nat.add_eq_left, Int.toNat_natCast, Nat.add_assoc, Int.ofNat_lt, Int.ofNat_le, Nat.lt_add_one_of_lt, Nat.lt_add_one, Nat.lt_add_right, Nat.lt_add_right_iff_pos, Nat.add_lt_add_iff_left, ft, tf]
    exact ⟨by simp [plainS, c1, c2], f1.trans f2, d2⟩
  simp -implicitDefEqProofs only [go_sem, Wk_block, Wk_drawnC, reduceCtorEq, Nat.reduceEqDiff, Nat.reduceAdd, Nat.reduceLeDiff, Nat.reduceLT, Nat.reduceMul, Nat.reduceSub, ↓reduceIte, Int.reduceLT, Int.reduceLE, Int.reduceNeg, Int.reduceAdd, Int.reduceEq, Nat.reduceBneDiff, Nat.reduceBEq, Int.reduceToNat, Int.reduceMul, Int.reduceSub, Int.reduceBEq, Int.reduceBNe, Int.cast_ofNat_Int, Int.toNat_natCast_add_one, Nat.add_left_cancel_iff, Nat.left_eq_add, Nat.add_eq_left, Int.toNat_natCast, Nat.add_assoc, Int.ofNat_lt, Int.ofNat_le, Nat.lt_add_one_of_lt, Nat.lt_add_one, Nat.lt_add_right, Nat.lt_add_right_iff_pos, Nat.add_lt_add_iff_left, g2, ft, tf]
  have hs : (s2.new (.cells [.int .i64 c.pages, .int .i64 c.last, .int .i64 c.spans, .int .i64 c.chunk, .int .i64 c.retry] false false 0)).get s2.next = some (.cells (c.nums.map (AV.int .i64)) false false 0) := by rw [St.get_new, if_pos rfl]; rfl
  refine Wl_of (within_run (L := c.nums) 65535 (rw_row hs rfl 5 false) (by simp [Cfg.nums]) (dom_new d2 _)) ?_
  rintro _ s3 ⟨rfl, hs3⟩
  have d3 : Dom s3 := by rw [hs3]; exact dom_new (dom_new d2 _) _
  have f3 : Fr s s3 := by rw [hs3]; exact (f1.trans f2).trans (by (repeat (first | exact FrX.refl _ _ | exact Fr.refl _ | assumption | exact Fr.x (by assumption) _ | refine FrX.put ?_ (.inl rfl) _ | refine FrX.put ?_ (.inr (by first | omega | (simp; done) | (simp; omega))) _ | refine FrX.new ?_ _ | refine Fr.put ?_ (by first | omega | (simp; done) | (simp; omega)) _ | refine Fr.new ?_ _ | refine FrX.then ?_ (by assumption) | refine Fr.trans ?_ (by assumption))))
  clear hs3
  simp -implicitDefEqProofs only [go_sem, Wk_block, Wk_drawnC, reduceCtorEq, Nat.reduceEqDiff, Nat.reduceAdd, Nat.reduceLeDiff, Nat.reduceLT, Nat.reduceMul, Nat.reduceSub, ↓reduceIte, Int.reduceLT, Int.reduceLE, Int.reduceNeg, Int.reduceAdd, Int.reduceEq, Nat.reduceBneDiff, Nat.reduceBEq, Int.reduceToNat, Int.reduceMul, Int.reduceSub, Int.reduceBEq, Int.reduceBNe, Int.cast_ofNat_Int, Int.toNat_natCast_add_one, Nat.add_left_cancel_iff, Nat.left_eq_add, Nat.add_eq_left, Int.toNat_natCast, Nat.add_assoc, Int.ofNat_lt, Int.ofNat_le, Nat.lt_add_one_of_lt, Nat.lt_add_one, Nat.lt_add_right, Nat.lt_add_right_iff_pos, Nat.add_lt_add_iff_left, ft, tf]
  exact ⟨by simp [plainS, c1, c2], f3, d3⟩
end Go.Proofs.YteiiblpnegjjlaaGreat.Lw
namespace Go.Proofs.YteiiblpnegjjlaaGreat.Lw
open D
set_option linter.unusedSimpArgs false
set_option linter.unusedVariables false
set_option maxRecDepth 10000

theorem bad_ge (most a : Int) : (decide (a ≥ 0) && decide (a ≤ most)) = !bad most a := by
  rw [Bool.eq_iff_iff]
  simp [bad]

theorem tiny_eq (a : Int) (s : St) : mm.L.call 37 [.int .i64 a] s = some (.bool (!bad 255 a), s) := by
  rw [← bad_ge]
  refine of_Wf (Wf_enter ft37 (sm (by decide)) (by rfl) ?_)
  have ft : (false == true) = false := rfl
  have tf : (true == false) = false := rfl
  cases c1 : decide (a ≥ 0)
  · simp -implicitDefEqProofs only [go_sem, Wk_block, Wk_drawnC, reduceCtorEq, Nat.reduceEqDiff, Nat.reduceAdd, Nat.reduceLeDiff, Nat.reduceLT, Nat.reduceMul, Nat.reduceSub, ↓reduceIte, Int.reduceLT, Int.reduceLE, Int.reduceNeg, Int.reduceAdd, Int.reduceEq, Nat.reduceBneDiff, Nat.reduceBEq, Int.reduceToNat, Int.reduceMul, Int.reduceSub, Int.reduceBEq, Int.reduceBNe, Int.cast_ofNat_Int, Int.toNat_natCast_add_one, Nat.add_left_cancel_iff, Nat.left_eq_add, Nat.add_eq_left, Int.toNat_natCast, Nat.add_assoc, Int.ofNat_lt, Int.ofNat_le, Nat.lt_add_one_of_lt, Nat.lt_add_one, Nat.lt_add_right, Nat.lt_add_right_iff_pos, Nat.add_lt_add_iff_left, fd37, c1, ft, tf]
    simp
  · simp -implicitDefEqProofs only [go_sem, Wk_block, Wk_drawnC, reduceCtorEq, Nat.reduceEqDiff, Nat.reduceAdd, Nat.reduceLeDiff, Nat.reduceLT, Nat.reduceMul, Nat.reduceSub, ↓reduceIte, Int.reduceLT, Int.reduceLE, Int.reduceNeg, Int.reduceAdd, Int.reduceEq, Nat.reduceBneDiff, Nat.reduceBEq, Int.reduceToNat, Int.reduceMul, Int.reduceSub, Int.reduceBEq, Int.reduceBNe, Int.cast_ofNat_Int, Int.toNat_natCast_add_one, Nat.add_left_cancel_iff, Nat.left_eq_add, Nat.add_eq_left, Int.toNat_natCast, Nat.add_assoc, Int.ofNat_lt, Int.ofNat_le, Nat.lt_add_one_of_lt, Nat.lt_add_one, Nat.lt_add_right, Nat.lt_add_right_iff_pos, Nat.add_lt_add_iff_left, fd37, c1, ft, tf]
theorem short_eq (a : Int) (s : St) : mm.L.call 35 [.int .i64 a] s = some (.bool (!bad 65535 a), s) := by
  rw [← bad_ge]
  refine of_Wf (Wf_enter ft35 (sm (by decide)) (by rfl) ?_)
  have ft : (false == true) = false := rfl
  have tf : (true == false) = false := rfl
  cases c1 : decide (a ≥ 0)
  · simp -implicitDefEqProofs only [go_sem, Wk_block, Wk_drawnC, reduceCtorEq, Nat.reduceEqDiff, Nat.reduceAdd, Nat.reduceLeDiff, Nat.reduceLT, Nat.reduceMul, Nat.reduceSub, ↓reduceIte, Int.reduceLT, Int.reduceLE, Int.reduceNeg, Int.reduceAdd, Int.reduceEq, Nat.reduceBneDiff, Nat.reduceBEq, Int.reduceToNat, Int.reduceMul, Int.reduceSub, Int.reduceBEq, Int.reduceBNe, Int.cast_ofNat_Int, Int.toNat_natCast_add_one, Nat.add_left_cancel_iff, Nat.left_eq_add, Nat.add_eq_left, Int.toNat_natCast, Nat.add_assoc, Int.ofNat_lt, Int.ofNat_le, Nat.lt_add_one_of_lt, Nat.lt_add_one, Nat.lt_add_right, Nat.lt_add_right_iff_pos, Nat.add_lt_add_iff_left, fd35, c1, ft, tf]
    simp
  · simp -implicitDefEqProofs only [go_sem, Wk_block, Wk_drawnC, reduceCtorEq, Nat.reduceEqDiff, Nat.reduceAdd, Nat.reduceLeDiff, Nat.reduceLT, Nat.reduceMul, Nat.reduceSub, ↓reduceIte, Int.reduceLT, Int.reduceLE, Int.reduceNeg, Int.reduceAdd, Int.reduceEq, Nat.reduceBneDiff, Nat.reduceBEq, Int.reduceToNat, Int.reduceMul, Int.reduceSub, Int.reduceBEq, Int.reduceBNe, Int.cast_ofNat_Int, Int.toNat_natCast_add_one, Nat.add_left_cancel_iff, Nat.left_eq_add, Nat.add_eq_left, Int.toNat_natCast, Nat.add_assoc, Int.ofNat_lt, Int.ofNat_le, Nat.lt_add_one_of_lt, Nat.lt_add_one, Nat.lt_add_right, Nat.lt_add_right_iff_pos, Nat.add_lt_add_iff_left, fd35, c1, ft, tf]

theorem refRight_run {x : Sop} {s : St} (hx : SopOk s x) : Wf mm 36 [.agg x.cells] s fun w s' => w = .bool (rightOp x) ∧ s' = s.new (.cells x.cells false false 0) := by
  refine Wf_enter ft36 (sm (by decide)) (by rfl) ?_
  have ft : (false == true) = false := rfl
  have tf : (true == false) = false := rfl
  cases c1 : decide (x.kind ≥ 0)
  · simp -implicitDefEqProofs only [go_sem, Wk_block, Wk_drawnC, reduceCtorEq, Nat.reduceEqDiff, Nat.reduceAdd, Nat.reduceLeDiff, Nat.reduceLT, Nat.reduceMul, Nat.reduceSub, ↓reduceIte, Int.reduceLT, Int.reduceLE, Int.reduceNeg, Int.reduceAdd, Int.reduceEq, Nat.reduceBneDiff, Nat.reduceBEq, Int.reduceToNat, Int.reduceMul, Int.reduceSub, Int.reduceBEq, Int.reduceBNe, Int.cast_ofNat_Int, Int.toNat_natCast_add_one, Nat.add_left_cancel_iff, Nat.left_eq_add, Nat.add_eq_left, Int.toNat_natCast, Nat.add_assoc, Int.ofNat_lt, Int.ofNat_le, Nat.lt_add_one_of_lt, Nat.lt_add_one, Nat.lt_add_right, Nat.lt_add_right_iff_pos, Nat.add_lt_add_iff_left, fd36, hx.len, hx.c0, hx.c1, c1, ft, tf]
    simp [rightOp, c1]
  cases c2 : decide (x.kind ≤ 18)
  · simp -implicitDefEqProofs only [go_sem, Wk_block, Wk_drawnC, reduceCtorEq, Nat.reduceEqDiff, Nat.reduceAdd, Nat.reduceLeDiff, Nat.reduceLT, Nat.reduceMul, Nat.reduceSub, ↓reduceIte, Int.reduceLT, Int.reduceLE, Int.reduceNeg, Int.reduceAdd, Int.reduceEq, Nat.reduceBneDiff, Nat.reduceBEq, Int.reduceToNat, Int.reduceMul, Int.reduceSub, Int.reduceBEq, Int.reduceBNe, Int.cast_ofNat_Int, Int.toNat_natCast_add_one, Nat.add_left_cancel_iff, Nat.left_eq_add, Nat.add_eq_left, Int.toNat_natCast, Nat.add_assoc, Int.ofNat_lt, Int.ofNat_le, Nat.lt_add_one_of_lt, Nat.lt_add_one, Nat.lt_add_right, Nat.lt_add_right_iff_pos, Nat.add_lt_add_iff_left, fd36, hx.len, hx.c0, hx.c1, c1, c2, ft, tf]
    simp [rightOp, c1, c2]
  cases c3 : (x.node == 0)
  · cases c4 : (x.node == 1)
    · have hb : rightOp x = false := by
        simp at c3 c4
        simp [rightOp]
        omega
      simp -implicitDefEqProofs only [go_sem, Wk_block, Wk_drawnC, reduceCtorEq, Nat.reduceEqDiff, Nat.reduceAdd, Nat.reduceLeDiff, Nat.reduceLT, Nat.reduceMul, Nat.reduceSub, ↓reduceIte, Int.reduceLT, Int.reduceLE, Int.reduceNeg, Int.reduceAdd, Int.reduceEq, Nat.reduceBneDiff, Nat.reduceBEq, Int.reduceToNat, Int.reduceMul, Int.reduceSub, Int.reduceBEq, Int.reduceBNe, Int.cast_ofNat_Int, Int.toNat_natCast_add_one, Nat.add_left_cancel_iff, Nat.left_eq_add, Nat.add_eq_left, Int.toNat_natCast, Nat.add_assoc, Int.ofNat_lt, Int.ofNat_le, Nat.lt_add_one_of_lt, Nat.lt_add_one, Nat.lt_add_right, Nat.lt_add_right_iff_pos, Nat.add_lt_add_iff_left, fd36, hx.len, hx.c0, hx.c1, c1, c2, c3, c4, ft, tf]
      simp [hb]
    · have hb : rightOp x = true := by
        simp at c1 c2 c4
        simp [rightOp]
        omega
      simp -implicitDefEqProofs only [go_sem, Wk_block, Wk_drawnC, reduceCtorEq, Nat.reduceEqDiff, Nat.reduceAdd, Nat.reduceLeDiff, Nat.reduceLT, Nat.reduceMul, Nat.reduceSub, ↓reduceIte, Int.reduceLT, Int.reduceLE, Int.reduceNeg, Int.reduceAdd, Int.reduceEq, Nat.reduceBneDiff, Nat.reduceBEq, Int.reduceToNat, Int.reduceMul, Int.reduceSub, Int.reduceBEq, Int.reduceBNe, Int.cast_ofNat_Int, Int.toNat_natCast_add_one, Nat.add_left_cancel_iff, Nat.left_eq_add, Nat.add_eq_left, Int.toNat_natCast, Nat.add_assoc, Int.ofNat_lt, Int.ofNat_le, Nat.lt_add_one_of_lt, Nat.lt_add_one, Nat.lt_add_right, Nat.lt_add_right_iff_pos, Nat.add_lt_add_iff_left, fd36, hx.len, hx.c0, hx.c1, c1, c2, c3, c4, ft, tf]
      simp [hb]
  · have hb : rightOp x = true := by
      simp at c1 c2 c3
      simp [rightOp]
      omega
    simp -implicitDefEqProofs only [go_sem, Wk_block, Wk_drawnC, reduceCtorEq, Nat.reduceEqDiff, Nat.reduceAdd, Nat.reduceLeDiff, Nat.reduceLT, Nat.reduceMul, Nat.reduceSub, ↓reduceIte, Int.reduceLT, Int.reduceLE, Int.reduceNeg, Int.reduceAdd, Int.reduceEq, Nat.reduceBneDiff, Nat.reduceBEq, Int.reduceToNat, Int.reduceMul, Int.reduceSub, Int.reduceBEq, Int.reduceBNe, Int.cast_ofNat_Int, Int.toNat_natCast_add_one, Nat.add_left_cancel_iff, Nat.left_eq_add, Nat.add_eq_left, Int.toNat_natCast, Nat.add_assoc, Int.ofNat_lt, Int.ofNat_le, Nat.lt_add_one_of_lt, Nat.lt_add_one, Nat.lt_add_right, Nat.lt_add_right_iff_pos, Nat.add_lt_add_iff_left, fd36, hx.len, hx.c0, hx.c1, c1, c2, c3, ft, tf]
    simp [hb]
end Go.Proofs.YteiiblpnegjjlaaGreat.Lw
