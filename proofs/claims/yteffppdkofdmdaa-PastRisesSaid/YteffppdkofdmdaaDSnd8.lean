/- The operations of the abstract machine do what the model's do: binary and unary operations, lengths, maps. -/
import Derived.Test.YteffppdkofdmdaaDSnd7
namespace Go.Proofs.Yteffppdkofdmdaa.D
variable {P : Program} {R : Nat} {μ : Place} {s : St} {w : World} {ev : Ev} {ρ : Operand → Value} {o : Oper} {p : POp} {v : AV} {s' : St}

theorem intBin_run {op : BinOp} {k : IntKind} {a b : Int} {v : AV} (h : intBin op k a b = some v) (t : TypeId) (w : World) (hs : op ≠ .shl ∧ op ≠ .shr) : ∃ c, conc μ v = some c ∧ (binOp op t (.int k a) (.int k b)).run P w = .ok c w := by
  cases op <;> simp only [intBin, Option.some.injEq] at h
  case quo =>
    split at h <;> cases h
    rename_i hb
    exact ⟨_, rfl, by simp [binOp, Op.intDiv, hb]⟩
  case rem =>
    split at h <;> cases h
    rename_i hb
    exact ⟨_, rfl, by simp [binOp, Op.intDiv, hb]⟩
  case shl => exact absurd rfl hs.1
  case shr => exact absurd rfl hs.2
  all_goals first
    | (subst h; exact ⟨_, rfl, by simp [binOp, Op.intArith, Op.intBits, Op.intCmp]⟩)
    | cases h

theorem strBin_run {op : BinOp} {a b : ByteArray} {v : AV} (h : strBin op a b = some v) (t : TypeId) (w : World) : ∃ c, conc μ v = some c ∧ (binOp op t (.string a) (.string b)).run P w = .ok c w := by
  cases op <;> simp only [strBin, Option.some.injEq] at h
  case add =>
    split at h <;> cases h
    rename_i hb
    refine ⟨_, rfl, ?_⟩
    simp only [binOp, Op.stringOp, if_neg hb, Sem.run_pure]
  all_goals first
    | (subst h; exact ⟨_, rfl, by simp [binOp, Op.stringOp]⟩)
    | cases h

/-- What a way of holding two values against one another says of their type. -/
def EqK.says (P : Program) (t : TypeId) (x y : Operand) : EqK → Prop
  | .leaf => P.underlying t = some .bool
  | .ptr => ∃ e, P.underlying t = some (.pointer e)
  | .slice => ∃ e, P.underlying t = some (.slice e)
  | .map => ∃ e f, P.underlying t = some (.map e f)
  | .func => ∃ e f g, P.underlying t = some (.func e f g)
  | .iface => (∃ e, P.underlying t = some (.interface e)) ∧ (isC x || isC y) = true
  | .cells ks => P.eqGuardType P.depth t = false ∧ flat P 12 t = some ks ∧ isAggB P t = some true
  | .no => True

theorem eqK_says (t : TypeId) (x y : Operand) : (eqK P t x y).says P t x y := by
  unfold eqK
  cases hu : P.underlying t with
  | none => trivial
  | some d =>
    cases d <;> simp only []
    case bool => exact hu
    case pointer e => exact ⟨e, hu⟩
    case slice e => exact ⟨e, hu⟩
    case map e f => exact ⟨e, f, hu⟩
    case func e f g => exact ⟨e, f, g, hu⟩
    case interface e =>
      split
      · rename_i hc; exact ⟨⟨e, hu⟩, hc⟩
      · trivial
    case struct fs =>
      split
      · trivial
      · rename_i hg
        split
        · rename_i l hl; exact ⟨by simpa using hg, hl, by simp [isAggB, hu]⟩
        · trivial
    case array n e =>
      split
      · trivial
      · rename_i hg
        split
        · rename_i l hl; exact ⟨by simpa using hg, hl, by simp [isAggB, hu]⟩
        · trivial
    all_goals trivial

theorem isC_matches (x : Operand) : (match x with | .const _ => true | _ => false) = isC x := by cases x <;> rfl

/-- The model's comparison, as a whole. -/
def cmpRun (P : Program) (op : BinOp) (t : TypeId) (x y : Operand) (ca cb : Value) (w : World) (r : Bool) : Prop :=
  (eqGuard op t x y ca cb).run P w = .ok () w ∧ (binOp op t ca cb).run P w = .ok (.bool r) w

theorem equal_of {t : TypeId} {d : TypeDesc} (hu : P.underlying t = some d) {x y : Value} {r : Bool} {w : World} {k : TypeDesc → Sem Bool} (hk : Op.equal t x y = underlying t >>= k) (hr : (k d).run P w = .ok r w) : (Op.equal t x y).run P w = .ok r w := by
  rw [hk, Sem.run_bind, run_und hu]; exact hr

theorem cmp_of {t : TypeId} {x y : Operand} {ca cb : Value} {r : Bool} {w : World} (h : (Op.equal t ca cb).run P w = .ok r w) (g1 : (eqGuard .eql t x y ca cb).run P w = .ok () w) (g2 : (eqGuard .neq t x y ca cb).run P w = .ok () w)
    (b1 : binOp .eql t ca cb = Op.equal t ca cb >>= fun b => pure (.bool b)) (b2 : binOp .neq t ca cb = Op.equal t ca cb >>= fun b => pure (.bool (!b))) :
    cmpRun P .eql t x y ca cb w r ∧ cmpRun P .neq t x y ca cb w (!r) :=
  ⟨⟨g1, by rw [b1, Sem.run_bind, h]; rfl⟩, ⟨g2, by rw [b2, Sem.run_bind, h]; rfl⟩⟩

theorem cmp_bool {t : TypeId} {x y : Operand} (hu : P.underlying t = some .bool) {a b : AV} {r : Bool} (h : boolEq a b = some r) {ca cb : Value} (ha : conc μ a = some ca) (hb : conc μ b = some cb) (w : World) :
    cmpRun P .eql t x y ca cb w r ∧ cmpRun P .neq t x y ca cb w (!r) := by
  unfold boolEq at h
  split at h
  · cases h
    have := conc_bool ha; subst this
    have := conc_bool hb; subst this
    exact cmp_of (equal_of hu rfl rfl) rfl rfl rfl rfl
  · cases h

theorem nilEq_some {k : EqK} {a b : AV} {r : Bool} (h : nilEq k a b = some r) : (nilOf k a = some true ∧ nilOf k b = some r) ∨ (nilOf k a = some r ∧ nilOf k b = some true) := by
  unfold nilEq at h
  split at h
  · cases h
  · rename_i x hx
    split at h
    · cases h
    · rename_i y hy
      cases x
      · simp only [Bool.false_eq_true, if_false] at h
        split at h
        · rename_i hyt
          cases h
          exact .inr ⟨hx, by rw [hy, hyt]⟩
        · cases h
      · simp only [if_true, Option.some.injEq] at h
        subst h
        exact .inl ⟨hx, hy⟩

theorem nil_ptr {a : AV} {n : Bool} (h : nilOf .ptr a = some n) {c : Value} (hc : conc μ a = some c) : ∃ p, c = .pointer p ∧ p.isNone = n := by
  cases a <;> simp only [nilOf, Option.some.injEq, reduceCtorEq] at h
  · obtain ⟨q, _, rfl⟩ := isSome_of_conc_ptr hc
    exact ⟨_, rfl, h⟩
  · simp only [conc, Option.some.injEq] at hc; subst hc
    exact ⟨none, rfl, h⟩

theorem nil_slice {a : AV} {n : Bool} (h : nilOf .slice a = some n) {c : Value} (hc : conc μ a = some c) : ∃ p l k, c = .slice p l k ∧ p.isNone = n := by
  cases a <;> simp only [nilOf, Option.some.injEq, reduceCtorEq] at h
  · obtain ⟨q, _, rfl⟩ := conc_slice hc
    exact ⟨_, _, _, rfl, h⟩
  · simp only [conc, Option.some.injEq] at hc; subst hc
    exact ⟨_, _, _, rfl, h⟩
  · obtain ⟨q, _, rfl⟩ := conc_tail hc
    exact ⟨_, _, _, rfl, h⟩

theorem nil_map {a : AV} {n : Bool} (h : nilOf .map a = some n) {c : Value} (hc : conc μ a = some c) : ∃ p, c = .map p ∧ p.isNone = n := by
  cases a <;> simp only [nilOf, Option.some.injEq, reduceCtorEq] at h
  · obtain ⟨q, _, rfl⟩ := conc_map hc
    exact ⟨_, rfl, h⟩
  · simp only [conc, Option.some.injEq] at hc; subst hc
    exact ⟨_, rfl, h⟩

theorem conc_fn {f : Fn} {a c : List AV} {x : Value} (h : conc μ (.fn f a c) = some x) : ∃ xs ys, Fn.plain f = true ∧ concs μ a = some xs ∧ concs μ c = some ys ∧ x = .func f xs.toArray ys.toArray := by
  simp only [conc] at h
  split at h
  · rename_i hf
    simp only [Option.bind_eq_some_iff, Option.map_eq_some_iff] at h
    obtain ⟨xs, h1, ys, h2, rfl⟩ := h
    exact ⟨xs, ys, hf, h1, h2, rfl⟩
  · cases h

theorem nil_func {a : AV} {n : Bool} (h : nilOf .func a = some n) {c : Value} (hc : conc μ a = some c) : (c = .nilFunc ∧ n = true) ∨ ((∃ f x y, c = .func f x y) ∧ n = false) := by
  cases a <;> simp only [nilOf, Option.some.injEq, reduceCtorEq] at h
  · obtain ⟨_, _, _, _, _, rfl⟩ := conc_fn hc
    exact .inr ⟨⟨_, _, _, rfl⟩, h.symm⟩
  · simp only [conc, Option.some.injEq] at hc; subst hc
    exact .inl ⟨rfl, h.symm⟩

theorem nil_iface {a : AV} {n : Bool} (h : nilOf .iface a = some n) {c : Value} (hc : conc μ a = some c) : (c = .nilIface ∧ n = true) ∨ ((∃ f x, c = .iface f x) ∧ n = false) := by
  cases a <;> simp only [nilOf, Option.some.injEq, reduceCtorEq] at h
  · simp only [conc, Option.map_eq_some_iff] at hc
    obtain ⟨x, _, rfl⟩ := hc
    exact .inr ⟨⟨_, _, rfl⟩, h.symm⟩
  · simp only [conc, Option.some.injEq] at hc; subst hc
    exact .inl ⟨rfl, h.symm⟩

theorem cmp_ptr {t e : TypeId} {x y : Operand} (hu : P.underlying t = some (.pointer e)) {a b : AV} {r : Bool} (h : nilEq .ptr a b = some r) {ca cb : Value} (ha : conc μ a = some ca) (hb : conc μ b = some cb) (w : World) :
    cmpRun P .eql t x y ca cb w r ∧ cmpRun P .neq t x y ca cb w (!r) := by
  rcases nilEq_some h with ⟨h1, h2⟩ | ⟨h1, h2⟩
  all_goals
    obtain ⟨p, rfl, hp⟩ := nil_ptr h1 ha
    obtain ⟨q, rfl, hq⟩ := nil_ptr h2 hb
    cases p <;> cases q <;> simp at hp hq <;> subst_vars
    all_goals exact cmp_of (equal_of hu rfl rfl) rfl rfl rfl rfl

theorem cmp_slice {t e : TypeId} {x y : Operand} (hu : P.underlying t = some (.slice e)) {a b : AV} {r : Bool} (h : nilEq .slice a b = some r) {ca cb : Value} (ha : conc μ a = some ca) (hb : conc μ b = some cb) (w : World) :
    cmpRun P .eql t x y ca cb w r ∧ cmpRun P .neq t x y ca cb w (!r) := by
  rcases nilEq_some h with ⟨h1, h2⟩ | ⟨h1, h2⟩
  all_goals
    obtain ⟨p, _, _, rfl, hp⟩ := nil_slice h1 ha
    obtain ⟨q, _, _, rfl, hq⟩ := nil_slice h2 hb
    cases p <;> cases q <;> simp at hp hq <;> subst_vars
    all_goals exact cmp_of (equal_of hu rfl rfl) rfl rfl rfl rfl

theorem cmp_map {t e f : TypeId} {x y : Operand} (hu : P.underlying t = some (.map e f)) {a b : AV} {r : Bool} (h : nilEq .map a b = some r) {ca cb : Value} (ha : conc μ a = some ca) (hb : conc μ b = some cb) (w : World) :
    cmpRun P .eql t x y ca cb w r ∧ cmpRun P .neq t x y ca cb w (!r) := by
  rcases nilEq_some h with ⟨h1, h2⟩ | ⟨h1, h2⟩
  all_goals
    obtain ⟨p, rfl, hp⟩ := nil_map h1 ha
    obtain ⟨q, rfl, hq⟩ := nil_map h2 hb
    cases p <;> cases q <;> simp at hp hq <;> subst_vars
    all_goals exact cmp_of (equal_of hu rfl rfl) rfl rfl rfl rfl

theorem cmp_func {t : TypeId} {e f : Array TypeId} {g : Bool} {x y : Operand} (hu : P.underlying t = some (.func e f g)) {a b : AV} {r : Bool} (h : nilEq .func a b = some r) {ca cb : Value} (ha : conc μ a = some ca) (hb : conc μ b = some cb) (w : World) :
    cmpRun P .eql t x y ca cb w r ∧ cmpRun P .neq t x y ca cb w (!r) := by
  rcases nilEq_some h with ⟨h1, h2⟩ | ⟨h1, h2⟩
  all_goals
    rcases nil_func h1 ha with ⟨rfl, hp⟩ | ⟨⟨_, _, _, rfl⟩, hp⟩ <;> rcases nil_func h2 hb with ⟨rfl, hq⟩ | ⟨⟨_, _, _, rfl⟩, hq⟩ <;> first | (simp at hp; done) | (simp at hq; done) | subst_vars
    all_goals exact cmp_of (equal_of hu rfl rfl) rfl rfl rfl rfl

theorem guard_nil {op : BinOp} {t : TypeId} {x y : Operand} (hc : (isC x || isC y) = true) (w : World) : (eqGuard op t x y .nilIface .nilIface).run P w = .ok () w := by
  cases x <;> cases y <;> first | (simp [isC] at hc; done) | (cases op <;> rfl)

theorem cmp_iface {t : TypeId} {e : Array (String × TypeId)} {x y : Operand} (hu : P.underlying t = some (.interface e)) (hc : (isC x || isC y) = true) {a b : AV} {r : Bool} (h : nilEq .iface a b = some r) {ca cb : Value} (ha : conc μ a = some ca) (hb : conc μ b = some cb) (w : World) :
    cmpRun P .eql t x y ca cb w r ∧ cmpRun P .neq t x y ca cb w (!r) := by
  rcases nilEq_some h with ⟨h1, h2⟩ | ⟨h1, h2⟩
  all_goals
    rcases nil_iface h1 ha with ⟨rfl, hp⟩ | ⟨⟨_, _, rfl⟩, hp⟩ <;> rcases nil_iface h2 hb with ⟨rfl, hq⟩ | ⟨⟨_, _, rfl⟩, hq⟩ <;> first | (simp at hp; done) | (simp at hq; done) | subst_vars
    all_goals first | exact cmp_of (equal_of hu rfl rfl) (guard_nil hc w) (guard_nil hc w) rfl rfl | exact cmp_of (equal_of hu rfl rfl) rfl rfl rfl rfl

theorem cmp_cells {t : TypeId} {ks : List Nat} {x y : Operand} (hg : P.eqGuardType P.depth t = false) (hf : flat P 12 t = some ks) (hag : isAggB P t = some true) {a b : AV} {r : Bool} (h : aggEq ks a b = some r) {ca cb : Value} (ha : conc μ a = some ca) (hb : conc μ b = some cb) (w : World) :
    cmpRun P .eql t x y ca cb w r ∧ cmpRun P .neq t x y ca cb w (!r) := by
  unfold aggEq at h
  split at h
  case h_2 => cases h
  obtain ⟨xs, hxs, rfl⟩ := conc_agg ha
  obtain ⟨ys, hys, rfl⟩ := conc_agg hb
  have hrun := equal_flat (P := P) 12 9988 t ks hf true _ _ xs ys r hag hxs hys h w
  simp only [asValue, if_true] at hrun
  have hrun' : (Op.equal t (.agg xs.toArray) (.agg ys.toArray)).run P w = .ok r w := hrun
  refine ⟨⟨by simp [eqGuard, hg], by simp [binOp, hrun']⟩, ⟨by simp [eqGuard, hg], by simp [binOp, hrun']⟩⟩

theorem eqA_run {t : TypeId} {x y : Operand} {a b : AV} {r : Bool} (h : eqA (eqK P t x y) a b = some r) {ca cb : Value} (ha : conc μ a = some ca) (hb : conc μ b = some cb) (w : World) :
    cmpRun P .eql t x y ca cb w r ∧ cmpRun P .neq t x y ca cb w (!r) := by
  have hs := eqK_says (P := P) t x y
  generalize eqK P t x y = k at *
  cases k with
  | leaf => exact cmp_bool hs h ha hb w
  | ptr => obtain ⟨e, hs⟩ := hs; exact cmp_ptr hs h ha hb w
  | slice => obtain ⟨e, hs⟩ := hs; exact cmp_slice hs h ha hb w
  | map => obtain ⟨e, f, hs⟩ := hs; exact cmp_map hs h ha hb w
  | func => obtain ⟨e, f, g, hs⟩ := hs; exact cmp_func hs h ha hb w
  | iface => obtain ⟨⟨e, hs⟩, hc⟩ := hs; exact cmp_iface hs hc h ha hb w
  | cells ks => exact cmp_cells hs.1 hs.2.1 hs.2.2 h ha hb w
  | no => simp [eqA] at h

theorem snd_bin {op : BinOp} {t t' : TypeId} {x y : Operand} (ho : o.op = .binOp op t x y t') (hp : prepOp P o = some p) (h : HR P R μ s w) (hρ : EvR μ ev ρ) (hx : xop p ev s = some (v, s')) (hR : s'.next ≤ R) : Snd P R μ s w (execOp ρ o) v s' := by
  simp only [prepOp, ho] at hp
  split at hp <;> cases hp
  rename_i a b ha hb
  simp only [xop] at hx
  split at hx
  case h_2 => cases hx
  rename_i va vb hva hvb
  have hbin : binA op (eqK P t x y) va vb = some v ∧ s = s' := pure'_some hx
  obtain ⟨hbin, rfl⟩ := hbin
  have h1 := hρ _ _ _ ha hva
  have h2 := hρ _ _ _ hb hvb
  -- the guard says nothing where the values are no structs
  have hguard : (∀ k n, va = .int k n → True) → ((∃ k n, va = .int k n) ∨ (∃ z, va = .str z)) → (eqGuard op t x y (ρ x) (ρ y)).run P w = .ok () w := by
    intro _ hcase
    rcases hcase with ⟨k, n, rfl⟩ | ⟨z, rfl⟩
    · rw [conc_int h1]; unfold eqGuard; cases op <;> simp
    · rw [conc_str h1]; unfold eqGuard; cases op <;> simp
  unfold binA at hbin
  split at hbin
  · rename_i k a' k' b'
    split at hbin <;> cases hbin
    rename_i hb0
    refine Snd.pure h hR (c := .int k (k.wrap (a' * 2 ^ (min b'.toNat k.bits)))) ?_ rfl
    have hg := hguard (fun _ _ _ => trivial) (.inl ⟨k, a', rfl⟩)
    simp only [execOp, ho, Sem.run_bind, hg, Result.andThen_ok]
    rw [conc_int h1, conc_int h2]
    simp [binOp, Op.shift, hb0]
  · rename_i k a' k' b'
    split at hbin <;> cases hbin
    rename_i hb0
    refine Snd.pure h hR (c := .int k (a'.fdiv (2 ^ (min b'.toNat k.bits)))) ?_ rfl
    have hg := hguard (fun _ _ _ => trivial) (.inl ⟨k, a', rfl⟩)
    simp only [execOp, ho, Sem.run_bind, hg, Result.andThen_ok]
    rw [conc_int h1, conc_int h2]
    simp [binOp, Op.shift, hb0]
  · rename_i k a' k' b' hns1 hns2
    split at hbin
    case isFalse => cases hbin
    rename_i hkk
    subst hkk
    obtain ⟨c, hc, hrun⟩ := intBin_run (P := P) (μ := μ) hbin t w ⟨fun e => by subst e; simp [intBin] at hbin, fun e => by subst e; simp [intBin] at hbin⟩
    refine Snd.pure h hR (c := c) ?_ hc
    have hg := hguard (fun _ _ _ => trivial) (.inl ⟨k, a', rfl⟩)
    simp only [execOp, ho, Sem.run_bind, hg, Result.andThen_ok]
    rw [conc_int h1, conc_int h2, hrun]
    simp
  · rename_i a' b'
    obtain ⟨c, hc, hrun⟩ := strBin_run (P := P) (μ := μ) hbin t w
    refine Snd.pure h hR (c := c) ?_ hc
    have hg := hguard (fun _ _ _ => trivial) (.inr ⟨_, rfl⟩)
    simp only [execOp, ho, Sem.run_bind, hg, Result.andThen_ok]
    rw [conc_str h1, conc_str h2, hrun]
    simp
  · split at hbin <;> cases hbin
    rename_i r hr
    refine Snd.pure h hR (c := .bool r) ?_ rfl
    obtain ⟨⟨e1, e2⟩, _⟩ := eqA_run (P := P) hr h1 h2 w
    simp only [execOp, ho, Sem.run_bind, e1, Result.andThen_ok, e2, Sem.run_pure]
  · split at hbin <;> cases hbin
    rename_i r hr
    refine Snd.pure h hR (c := .bool (!r)) ?_ rfl
    obtain ⟨_, ⟨e1, e2⟩⟩ := eqA_run (P := P) hr h1 h2 w
    simp only [execOp, ho, Sem.run_bind, e1, Result.andThen_ok, e2, Sem.run_pure]
  · cases hbin

theorem snd_un {op : UnOp} {t : TypeId} {x : Operand} (ho : o.op = .unOp op t x) (hp : prepOp P o = some p) (h : HR P R μ s w) (hρ : EvR μ ev ρ) (hx : xop p ev s = some (v, s')) (hR : s'.next ≤ R) : Snd P R μ s w (execOp ρ o) v s' := by
  simp only [prepOp, ho, Option.map_eq_some_iff] at hp
  obtain ⟨a, ha, rfl⟩ := hp
  simp only [xop] at hx
  split at hx
  case h_2 => cases hx
  rename_i u hu
  have hun : unA op u = some v ∧ s = s' := pure'_some hx
  obtain ⟨hun, rfl⟩ := hun
  have hc := hρ _ _ _ ha hu
  cases op <;> cases u <;> first | (simp [unA] at hun; done) | skip
  all_goals simp only [unA, Option.some.injEq] at hun
  all_goals subst hun
  all_goals first
    | (refine Snd.pure h hR (c := .bool _) ?_ rfl; simp [execOp, ho, conc_bool hc, Op.unary]; done)
    | (refine Snd.pure h hR (c := .int _ _) ?_ rfl; simp [execOp, ho, conc_int hc, Op.unary, Op.intArith, Op.intBits]; done)
end Go.Proofs.Yteffppdkofdmdaa.D
