/- The operations of the abstract machine do what the model's do: the rest, and all of them. -/
import Derived.Test.YteffppdkofdmdaaDSnd11
namespace Go.Proofs.Yteffppdkofdmdaa.D
variable {P : Program} {R : Nat} {μ : Place} {s : St} {w : World} {ev : Ev} {ρ : Operand → Value} {o : Oper} {p : POp} {v : AV} {s' : St}

theorem prepXs_map : ∀ {l : List Operand} {xs : List X}, prepXs l = some xs → xs.length = l.length ∧ ∀ (i : Nat) (x : X) (y : Operand), xs[i]? = some x → l[i]? = some y → prepX y = some x
  | [], xs, h => by simp only [prepXs, Option.some.injEq] at h; subst h; simp
  | a :: l, xs, h => by
    simp only [prepXs] at h
    split at h
    case h_2 => cases h
    rename_i b hb
    split at h <;> cases h
    rename_i r hr
    obtain ⟨h1, h2⟩ := prepXs_map hr
    refine ⟨by simp [h1], fun i x y hx hy => ?_⟩
    cases i with
    | zero => simp at hx hy; subst hx; subst hy; exact hb
    | succ i => exact h2 i x y (by simpa using hx) (by simpa using hy)

theorem prepXs_1 {l : Array Operand} {a : X} (h : prepXs l.toList = some [a]) : ∃ x, l = #[x] ∧ prepX x = some a := by
  obtain ⟨h1, h2⟩ := prepXs_map h
  obtain ⟨x, hx⟩ := List.length_eq_one_iff.1 h1.symm
  exact ⟨x, Array.ext' hx, h2 0 a x rfl (by rw [hx]; rfl)⟩

theorem prepXs_2 {l : Array Operand} {a b : X} (h : prepXs l.toList = some [a, b]) : ∃ x y, l = #[x, y] ∧ prepX x = some a ∧ prepX y = some b := by
  obtain ⟨h1, h2⟩ := prepXs_map h
  match hl : l.toList, h1 with
  | [x, y], _ => exact ⟨x, y, Array.ext' hl, h2 0 a x rfl (by rw [hl]; rfl), h2 1 b y rfl (by rw [hl]; rfl)⟩

theorem run_builtin {b : Builtin} {c : Call} (ho : o.op = .call c) (hc : c.callee = .builtin b) (x : Sem Value)
    (hb : ∀ consts, builtin b c.argTypes o.type consts (c.args.map ρ) = (do pure (.value (← x)))) {cv : Value} {w' : World} (hx : x.run P w = .ok cv w') : (execOp ρ o).run P w = .ok (.value cv) w' := by
  simp only [execOp, ho, resolve, hc, Sem.run_bind, Sem.run_pure, Result.andThen_ok, invoke, hb, hx]

theorem array_1 {α : Type} {l : Array α} {a : α} (h : l.toList = [a]) : l = #[a] := Array.ext' h
theorem array_2 {α : Type} {l : Array α} {a b : α} (h : l.toList = [a, b]) : l = #[a, b] := Array.ext' h

theorem snd_append {c : Call} (ho : o.op = .call c) (hc : c.callee = .builtin .append) (hp : prepOp P o = some p) (h : HR P R μ s w) (hρ : EvR μ ev ρ) (hx : xop p ev s = some (v, s')) (hR : s'.next ≤ R) : Snd P R μ s w (execOp ρ o) v s' := by
  simp only [prepOp, ho, hc, prepBuiltin] at hp
  split at hp
  case h_2 => cases hp
  rename_i args hargs
  unfold prepAppend at hp
  split at hp
  case h_2 => cases hp
  rename_i st xt a x e2
  split at hp
  case h_2 => cases hp
  rename_i e hst
  split at hp
  case h_1 => cases hp
  rename_i d hxt
  split at hp
  case h_2 => cases hp
  rename_i sz by' z hsz hb hz
  split at hp <;> cases hp
  rename_i hcond
  simp only [Bool.and_eq_true, decide_eq_true_eq, beq_iff_eq] at hcond
  obtain ⟨⟨hs1, hzl⟩, hb1⟩ := hcond
  obtain ⟨ox, oy, harr, ha, hxx⟩ := prepXs_2 hargs
  obtain ⟨zv, hzr, hzc⟩ := zeroB_some hz
  have hzs : zv.cells.size = sz := by have := concs_length (hzc μ); simp at this; omega
  have fin : ∀ {cv : Value} {w' : World}, (Builtin.append_ #[st, xt] o.type #[ρ ox, ρ oy]).run P w = .ok cv w' → (execOp ρ o).run P w = .ok (.value cv) w' := fun hrun =>
    run_builtin ho hc _ (fun _ => by
      rw [array_2 e2, harr]
      simp only [List.map_toArray, List.map_cons, List.map_nil]
      rfl) hrun
  cases hid : isIntD d with
  | false =>
    rw [hid] at hx
    have hnx : ∀ k, d ≠ .int k := by intro k e; subst e; cases hid
    simp only [Bool.false_eq_true, if_false, xop] at hx
    split at hx
    case h_2 => cases hx
    rename_i av xv hav hxv
    split at hx
    case h_2 => cases hx
    rename_i n l hsrc
    split at hx
    case isFalse => cases hx
    rename_i hl
    obtain ⟨xs, hxs, hA⟩ := appRuns_src (ty := o.type) hst hxt hnx hsz hb hb1 h hsrc hl (hρ _ _ _ hxx hxv)
    obtain ⟨ν, cv, w', hrun, h1, h2, h3⟩ := appendA_snd (P := P) hs1 hzr hzs h hl (hρ _ _ _ ha hav) hxs hA hx hR
    exact ⟨ν, cv, w', .inl (fin hrun), h1, h2, h3⟩
  | true =>
    rw [hid] at hx
    obtain ⟨k, rfl⟩ : ∃ k, d = .int k := by cases d <;> first | exact ⟨_, rfl⟩ | cases hid
    simp only [if_true, xop] at hx
    split at hx
    case h_2 => cases hx
    rename_i av kk m hav hxv
    split at hx
    case isFalse => cases hx
    rename_i hm
    obtain ⟨m0, m1, m2⟩ := hm
    have hcy := conc_int (hρ _ _ _ hxx hxv)
    have hl : (List.replicate m.toNat z).flatten.length = m.toNat * sz := by simp [hzl]
    have hA := appRuns_zeros (P := P) (w := w) (ty := o.type) (k' := kk) hst hxt hsz hb hb1 hzr hzs m0 m1 m2
    rw [← hcy] at hA
    obtain ⟨ν, cv, w', hrun, h1, h2, h3⟩ := appendA_snd (P := P) hs1 hzr hzs h hl (hρ _ _ _ ha hav) (concs_rep (hzc μ) _) hA hx hR
    exact ⟨ν, cv, w', .inl (fin hrun), h1, h2, h3⟩

theorem srcA_length {esz n : Nat} {x : AV} {l : List AV} (hs : srcA s esz x = some (n, l)) : l.length = n * esz := by
  unfold srcA at hs
  split at hs
  · cases hs; simp
  · cases hs; simp
  · cases hs; simp
  · split at hs <;> cases hs
    rename_i hla
    obtain ⟨vs, _, _, _, _, hle, rfl⟩ := loadA_some hla
    simp; omega
  · split at hs <;> cases hs
    rename_i he
    subst he
    rw [List.length_map, Array.length_toList, Nat.mul_one]
    rfl
  · cases hs

theorem snd_copy {c : Call} (ho : o.op = .call c) (hc : c.callee = .builtin .copy) (hp : prepOp P o = some p) (h : HR P R μ s w) (hρ : EvR μ ev ρ) (hx : xop p ev s = some (v, s')) (hR : s'.next ≤ R) : Snd P R μ s w (execOp ρ o) v s' := by
  simp only [prepOp, ho, hc, prepBuiltin] at hp
  split at hp
  case h_2 => cases hp
  rename_i args hargs
  unfold prepCopy at hp
  split at hp
  case h_2 => cases hp
  rename_i dt xt a x e2
  split at hp
  case h_2 => cases hp
  rename_i e hdt
  split at hp <;> cases hp
  rename_i sz hsz
  obtain ⟨ox, oy, harr, ha, hxx⟩ := prepXs_2 hargs
  simp only [xop] at hx
  split at hx
  case h_2 => cases hx
  rename_i dv xv hdv hxv
  split at hx
  case h_1 => cases hx
  rename_i n l hsrc
  have hrun : ∀ {cv : Value} {w' : World}, (Builtin.copy_ #[dt, xt] o.type #[ρ ox, ρ oy]).run P w = .ok cv w' → (execOp ρ o).run P w = .ok (.value cv) w' := fun hr =>
    run_builtin ho hc _ (fun _ => by rw [array_2 e2, harr]; simp only [List.map_toArray, List.map_cons, List.map_nil]; rfl) hr
  have hll := srcA_length hsrc
  obtain ⟨hlen, xs, hxs, hfc⟩ := run_src (P := P) h hsrc hll (hρ _ _ _ hxx hxv)
  split at hx
  case h_4 => cases hx
  · cases hx
    have hr : ρ ox = .slice none 0 0 := by simpa [conc] using (hρ _ _ _ ha hdv).symm
    refine Snd.pure h hR (c := .int .i64 0) (hrun ?_) rfl
    have := hfc 0 (Nat.zero_le _)
    simp [Builtin.copy_, run_und hdt, hr, hlen, run_size hsz, this, goInt]
  · cases hx
    obtain ⟨q, hq, hr⟩ := conc_tail (hρ _ _ _ ha hdv)
    refine Snd.pure h hR (c := .int .i64 0) (hrun ?_) rfl
    have := hfc 0 (Nat.zero_le _)
    simp [Builtin.copy_, run_und hdt, hr, hlen, run_size hsz, this, goInt, storeCells]
  · rename_i b of len cap lo
    obtain ⟨q, hq, hr⟩ := conc_slice (hρ _ _ _ ha hdv)
    have hmin : Nat.min n len = min n len := rfl
    have hf := hfc (min n len) (Nat.min_le_left _ _)
    split at hx
    · rename_i hm
      cases hx
      refine Snd.pure h hR (c := .int .i64 0) (hrun ?_) rfl
      rw [hm] at hf
      simp only [Nat.zero_mul, List.take_zero] at hf
      simp [Builtin.copy_, run_und hdt, hr, hlen, run_size hsz, hmin, hm, hf, goInt, storeCells]
    · split at hx <;> cases hx
      rename_i hst
      obtain ⟨w', hrs, h1, h2⟩ := run_storeA h hR hst hq (concs_take hxs (min n len * sz))
      refine ⟨μ, .int .i64 (min n len : Nat), w', .inl (hrun ?_), rfl, h1, h2⟩
      simp [Builtin.copy_, run_und hdt, hr, hlen, run_size hsz, hmin, hf, goInt, hrs]

theorem snd_len {c : Call} (ho : o.op = .call c) (hc : c.callee = .builtin .len) (hp : prepOp P o = some p) (h : HR P R μ s w) (hρ : EvR μ ev ρ) (hx : xop p ev s = some (v, s')) (hR : s'.next ≤ R) : Snd P R μ s w (execOp ρ o) v s' := by
  simp only [prepOp, ho, hc, prepBuiltin] at hp
  split at hp
  case h_2 => cases hp
  rename_i args hargs
  unfold prepLen at hp
  split at hp
  case h_2 => cases hp
  rename_i t x e2
  obtain ⟨ox, harr, ha⟩ := prepXs_1 hargs
  have hrun : ∀ {cv : Value} {w' : World}, (Builtin.len_ #[t] o.type #[ρ ox]).run P w = .ok cv w' → (execOp ρ o).run P w = .ok (.value cv) w' := fun hr =>
    run_builtin ho hc _ (fun _ => by rw [array_1 e2, harr]; simp only [List.map_toArray, List.map_cons, List.map_nil]; rfl) hr
  split at hp
  case h_6 => cases hp
  · rename_i n e hu
    cases hp
    simp only [xop, Option.some.injEq, Prod.mk.injEq] at hx
    obtain ⟨rfl, rfl⟩ := hx
    refine Snd.pure h hR (c := .int .i64 n) (hrun ?_) rfl
    simp [Builtin.len_, run_und hu, goInt]
  · rename_i e hu
    split at hp <;> cases hp
    rename_i n e' hue
    simp only [xop, Option.some.injEq, Prod.mk.injEq] at hx
    obtain ⟨rfl, rfl⟩ := hx
    refine Snd.pure h hR (c := .int .i64 n) (hrun ?_) rfl
    simp [Builtin.len_, run_und hu, run_und hue, goInt]
  · rename_i hu
    cases hp
    simp only [xop] at hx
    split at hx <;> cases hx
    rename_i z hv
    have hr := conc_str (hρ _ _ _ ha hv)
    refine Snd.pure h hR (c := .int .i64 z.size) (hrun ?_) rfl
    simp [Builtin.len_, run_und hu, hr, goInt]
  · rename_i e hu
    cases hp
    simp only [xop] at hx
    split at hx <;> cases hx
    · rename_i hv
      have hr : ρ ox = .slice none 0 0 := by simpa [conc] using (hρ _ _ _ ha hv).symm
      refine Snd.pure h hR (c := .int .i64 0) (hrun ?_) rfl
      simp [Builtin.len_, run_und hu, hr, goInt]
    · rename_i hv
      obtain ⟨q, hq, hr⟩ := conc_tail (hρ _ _ _ ha hv)
      refine Snd.pure h hR (c := .int .i64 0) (hrun ?_) rfl
      simp [Builtin.len_, run_und hu, hr, goInt]
    · rename_i n _ _ hv
      obtain ⟨q, hq, hr⟩ := conc_slice (hρ _ _ _ ha hv)
      refine Snd.pure h hR (c := .int .i64 n) (hrun ?_) rfl
      simp [Builtin.len_, run_und hu, hr, goInt]
    · rename_i a n m hv
      have hr : ρ ox = .slice a n m := by simpa [conc] using (hρ _ _ _ ha hv).symm
      refine Snd.pure h hR (c := .int .i64 n) (hrun ?_) rfl
      simp [Builtin.len_, run_und hu, hr, goInt]
  · rename_i e f hu
    cases hp
    simp only [xop] at hx
    split at hx
    case h_3 => cases hx
    · rename_i hv
      cases hx
      have hr : ρ ox = .map none := by simpa [conc] using (hρ _ _ _ ha hv).symm
      refine Snd.pure h hR (c := .int .i64 0) (hrun ?_) rfl
      simp [Builtin.len_, run_und hu, hr, goInt]
    · rename_i r hv
      split at hx <;> cases hx
      rename_i es cl hg
      obtain ⟨q, hq, hr⟩ := conc_map (hρ _ _ _ ha hv)
      obtain ⟨ces, hh, he⟩ := h.mapAt hg hq
      refine Snd.pure h hR (c := .int .i64 es.length) (hrun ?_) rfl
      have := entriesR_length he
      simp at this
      simp [Builtin.len_, run_und hu, hr, goInt, run_getMap hh, this]

theorem snd_cap {c : Call} (ho : o.op = .call c) (hc : c.callee = .builtin .cap) (hp : prepOp P o = some p) (h : HR P R μ s w) (hρ : EvR μ ev ρ) (hx : xop p ev s = some (v, s')) (hR : s'.next ≤ R) : Snd P R μ s w (execOp ρ o) v s' := by
  simp only [prepOp, ho, hc, prepBuiltin] at hp
  split at hp
  case h_2 => cases hp
  rename_i args hargs
  unfold prepCap at hp
  split at hp
  case h_2 => cases hp
  rename_i t x e2
  obtain ⟨ox, harr, ha⟩ := prepXs_1 hargs
  have hrun : ∀ {cv : Value} {w' : World}, (Builtin.cap_ #[t] o.type #[ρ ox]).run P w = .ok cv w' → (execOp ρ o).run P w = .ok (.value cv) w' := fun hr =>
    run_builtin ho hc _ (fun _ => by rw [array_1 e2, harr]; simp only [List.map_toArray, List.map_cons, List.map_nil]; rfl) hr
  split at hp <;> cases hp
  rename_i e hu
  simp only [xop] at hx
  split at hx <;> cases hx
  · rename_i hv
    have hr : ρ ox = .slice none 0 0 := by simpa [conc] using (hρ _ _ _ ha hv).symm
    refine Snd.pure h hR (c := .int .i64 0) (hrun ?_) rfl
    simp [Builtin.cap_, run_und hu, hr, goInt]
  · rename_i n hv
    obtain ⟨q, hq, hr⟩ := conc_slice (hρ _ _ _ ha hv)
    refine Snd.pure h hR (c := .int .i64 n) (hrun ?_) rfl
    simp [Builtin.cap_, run_und hu, hr, goInt]

theorem foldMM_run (mx : Bool) : ∀ {l : List AV} {a v : AV} (_ : foldMM mx a l = some v) {xs : List Value} {x : Value} (_ : concs μ l = some xs) (_ : conc μ a = some x) (w : World),
    ∃ c, conc μ v = some c ∧ (xs.foldlM (if mx then Builtin.max2 else Builtin.min2) x).run P w = .ok c w
  | [], a, v, h, xs, x, hx, ha, w => by
    simp only [foldMM, Option.some.injEq] at h
    subst h
    simp only [concs, Option.some.injEq] at hx
    subst hx
    exact ⟨x, ha, rfl⟩
  | b :: l, a, v, h, xs, x, hx, ha, w => by
    simp only [concs, Option.bind_eq_some_iff, Option.map_eq_some_iff] at hx
    obtain ⟨y, hy, z, hz, rfl⟩ := hx
    unfold foldMM at h
    split at h
    · rename_i e; cases e
    · rename_i k m k' n r e
      cases e
      have := conc_int ha; subst this
      have := conc_int hy; subst this
      obtain ⟨c, h1, h2⟩ := foldMM_run mx h hz rfl w
      refine ⟨c, h1, ?_⟩
      cases mx
      · simp only [List.foldlM_cons, Bool.false_eq_true, if_false, Builtin.min2, Sem.run_bind, Sem.run_pure, Result.andThen_ok] at h2 ⊢
        exact h2
      · simp only [List.foldlM_cons, if_true, Builtin.max2, Sem.run_bind, Sem.run_pure, Result.andThen_ok] at h2 ⊢
        exact h2
    · cases h

theorem snd_minmax {c : Call} {mx : Bool} (ho : o.op = .call c) (hc : c.callee = .builtin (if mx then .max else .min)) (hp : prepOp P o = some p) (h : HR P R μ s w) (hρ : EvR μ ev ρ) (hx : xop p ev s = some (v, s')) (hR : s'.next ≤ R) : Snd P R μ s w (execOp ρ o) v s' := by
  have hp' : ∃ args, prepXs c.args.toList = some args ∧ p = .minmax mx args := by
    cases mx
    all_goals
      simp only [prepOp, ho, hc, prepBuiltin, Bool.false_eq_true, if_false, if_true] at hp
      split at hp <;> cases hp
      exact ⟨_, by assumption, rfl⟩
  obtain ⟨args, hargs, rfl⟩ := hp'
  simp only [xop] at hx
  split at hx
  case h_2 => cases hx
  rename_i a l hl
  have hf : foldMM mx a l = some v ∧ s = s' := pure'_some hx
  obtain ⟨hf, rfl⟩ := hf
  have hcs := evs_conc hargs hρ hl
  simp only [concs, Option.bind_eq_some_iff, Option.map_eq_some_iff] at hcs
  obtain ⟨y, hy, z, hz, heq⟩ := hcs
  obtain ⟨cv, h1, h2⟩ := foldMM_run (P := P) mx hf hz hy w
  refine Snd.pure h hR (c := cv) ?_ h1
  have hargs' : (c.args.map ρ).toList = y :: z := by rw [Array.toList_map]; exact heq.symm
  cases mx
  · exact run_builtin ho hc (Builtin.min_ c.argTypes o.type (c.args.map ρ)) (fun _ => rfl) (by rw [Builtin.min_, hargs']; exact h2)
  · exact run_builtin ho hc (Builtin.max_ c.argTypes o.type (c.args.map ρ)) (fun _ => rfl) (by rw [Builtin.max_, hargs']; exact h2)

theorem snd_delete {c : Call} (ho : o.op = .call c) (hc : c.callee = .builtin .delete) (hp : prepOp P o = some p) (h : HR P R μ s w) (hρ : EvR μ ev ρ) (hx : xop p ev s = some (v, s')) (hR : s'.next ≤ R) : Snd P R μ s w (execOp ρ o) v s' := by
  simp only [prepOp, ho, hc, prepBuiltin] at hp
  split at hp
  case h_2 => cases hp
  rename_i args hargs
  unfold prepDelete at hp
  split at hp
  case h_2 => cases hp
  rename_i t t2 x y e2
  obtain ⟨ox, oy, harr, ha, hb⟩ := prepXs_2 hargs
  have hrun : ∀ {cv : Value} {w' : World}, (Builtin.delete_ #[t, t2] o.type #[ρ ox, ρ oy]).run P w = .ok cv w' → (execOp ρ o).run P w = .ok (.value cv) w' := fun hr =>
    run_builtin ho hc _ (fun _ => by rw [array_2 e2, harr]; simp only [List.map_toArray, List.map_cons, List.map_nil]; rfl) hr
  split at hp
  case h_2 => cases hp
  rename_i kt e hu
  split at hp <;> cases hp
  rename_i hkt
  obtain ⟨k0, hkt⟩ := isIntKey_some hkt
  simp only [xop] at hx
  split at hx
  case h_3 => cases hx
  · rename_i kk a hmv hkv
    cases hx
    have hr : ρ ox = .map none := by simpa [conc] using (hρ _ _ _ ha hmv).symm
    refine Snd.pure h hR (c := .tuple #[]) (hrun ?_) rfl
    simp [Builtin.delete_, run_und hu, hr, run_checkKey hkt]
  · rename_i r kk a hmv hkv
    split at hx
    case h_2 => cases hx
    rename_i es cl hg
    obtain ⟨q, hq, hr⟩ := conc_map (hρ _ _ _ ha hmv)
    have hri := conc_int (hρ _ _ _ hb hkv)
    obtain ⟨ces, hh, he⟩ := h.mapAt hg hq
    split at hx <;> cases hx
    · rename_i j v' hf
      obtain ⟨cr, hrf, hcr⟩ := run_findKey hkt he hf w
      cases cr with
      | none => exact hcr.elim
      | some jc =>
        obtain ⟨j', c'⟩ := jc
        obtain ⟨rfl, _, ee, hee, _⟩ := hcr
        obtain ⟨h1, h2⟩ := setObj_turn (cl' := cl) h hR hg hq (es' := es.eraseIdx j) (ces' := ces.eraseIdxIfInBounds j) (by
          have hlt : j < ces.size := by have := (List.getElem?_eq_some_iff.1 hee).1; simpa using this
          rw [Array.eraseIdxIfInBounds, dif_pos hlt, Array.toList_eraseIdx]
          exact entriesR_erase he j)
        refine ⟨μ, .tuple #[], _, .inl (hrun ?_), rfl, h1, h2⟩
        simp [Builtin.delete_, run_und hu, hr, run_getMap hh, run_checkKey hkt, hri, hrf, run_setMap hh]
    · rename_i hf
      obtain ⟨cr, hrf, hcr⟩ := run_findKey hkt he hf w
      cases cr with
      | some _ => exact hcr.elim
      | none =>
        refine Snd.pure h hR (c := .tuple #[]) (hrun ?_) rfl
        have hlt := (Array.getElem?_eq_some_iff.1 hh)
        have hsame : w.heap.setIfInBounds q.1 (.map ces cl) = w.heap := by
          obtain ⟨hlt, hval⟩ := hlt
          apply Array.ext (by simp)
          intro i h1 h2
          rw [Array.getElem_setIfInBounds]
          split
          · rename_i e; subst e; exact hval.symm
          · rfl
        simp [Builtin.delete_, run_und hu, hr, run_getMap hh, run_checkKey hkt, hri, hrf, run_setMap hh, hsame]

theorem snd_clear {c : Call} (ho : o.op = .call c) (hc : c.callee = .builtin .clear) (hp : prepOp P o = some p) (h : HR P R μ s w) (hρ : EvR μ ev ρ) (hx : xop p ev s = some (v, s')) (hR : s'.next ≤ R) : Snd P R μ s w (execOp ρ o) v s' := by
  simp only [prepOp, ho, hc, prepBuiltin] at hp
  split at hp
  case h_2 => cases hp
  rename_i args hargs
  unfold prepClear at hp
  split at hp
  case h_2 => cases hp
  rename_i t x e2
  obtain ⟨ox, harr, ha⟩ := prepXs_1 hargs
  have hrun : ∀ {cv : Value} {w' : World}, (Builtin.clear_ #[t] o.type #[ρ ox]).run P w = .ok cv w' → (execOp ρ o).run P w = .ok (.value cv) w' := fun hr =>
    run_builtin ho hc _ (fun _ => by rw [array_1 e2, harr]; simp only [List.map_toArray, List.map_cons, List.map_nil]; rfl) hr
  split at hp
  case h_3 => cases hp
  · rename_i e hu
    split at hp <;> cases hp
    rename_i z hz
    obtain ⟨zv, hzr, hzc⟩ := zeroB_some hz
    simp only [xop] at hx
    split at hx
    case h_4 => cases hx
    · rename_i hv
      cases hx
      have hr : ρ ox = .slice none 0 0 := by simpa [conc] using (hρ _ _ _ ha hv).symm
      refine Snd.pure h hR (c := .tuple #[]) (hrun ?_) rfl
      simp [Builtin.clear_, run_und hu, hr]
    · rename_i hv
      cases hx
      obtain ⟨q, hq, hr⟩ := conc_tail (hρ _ _ _ ha hv)
      refine Snd.pure h hR (c := .tuple #[]) (hrun ?_) rfl
      simp [Builtin.clear_, run_und hu, hr]
    · rename_i b of n _ _ hv
      obtain ⟨q, hq, hr⟩ := conc_slice (hρ _ _ _ ha hv)
      split at hx
      · rename_i hn
        cases hx
        refine Snd.pure h hR (c := .tuple #[]) (hrun ?_) rfl
        simp [Builtin.clear_, run_und hu, hr, hn]
      · rename_i hn
        split at hx <;> cases hx
        rename_i hst
        obtain ⟨w', hrs, h1, h2⟩ := run_storeA h hR hst hq (concs_rep (hzc μ) n)
        refine ⟨μ, .tuple #[], w', .inl (hrun ?_), rfl, h1, h2⟩
        have hzz : (Builtin.zeroCells zv.cells n).toList = (List.replicate n zv.cells.toList).flatten := by
          have := range_mod_flatten zv.cells n
          unfold Builtin.zeroCells
          rw [this]
        obtain ⟨n', rfl⟩ : ∃ m, n = m + 1 := ⟨n - 1, by omega⟩
        simp [Builtin.clear_, run_und hu, hr, hzr, hzz, hrs]
  · rename_i e f hu
    cases hp
    simp only [xop] at hx
    split at hx
    case h_3 => cases hx
    · rename_i hv
      cases hx
      have hr : ρ ox = .map none := by simpa [conc] using (hρ _ _ _ ha hv).symm
      refine Snd.pure h hR (c := .tuple #[]) (hrun ?_) rfl
      simp [Builtin.clear_, run_und hu, hr]
    · rename_i r hv
      split at hx <;> cases hx
      rename_i es cl hg
      obtain ⟨q, hq, hr⟩ := conc_map (hρ _ _ _ ha hv)
      obtain ⟨ces, hh, he⟩ := h.mapAt hg hq
      obtain ⟨h1, h2⟩ := setObj_turn (cl' := cl) h hR hg hq (es' := []) (ces' := #[]) trivial
      refine ⟨μ, .tuple #[], _, .inl (hrun ?_), rfl, h1, h2⟩
      simp [Builtin.clear_, run_und hu, hr, run_getMap hh, run_setMap hh]

theorem snd_makeSlice {t : TypeId} {x y : Operand} (ho : o.op = .makeSlice t x y) (hp : prepOp P o = some p) (h : HR P R μ s w) (hρ : EvR μ ev ρ) (hx : xop p ev s = some (v, s')) (hR : s'.next ≤ R) : Snd P R μ s w (execOp ρ o) v s' := by
  simp only [prepOp, ho] at hp
  split at hp
  case h_2 => cases hp
  rename_i e hu
  split at hp
  case h_2 => cases hp
  rename_i sz b z l c hsz hb hz hl hc
  split at hp <;> cases hp
  rename_i hzl
  simp only [beq_iff_eq] at hzl
  obtain ⟨zv, hzr, hzc⟩ := zeroB_some hz
  have hzs : zv.cells.size = sz := by have := concs_length (hzc μ); simp at this; omega
  simp only [xop] at hx
  split at hx
  case h_2 => cases hx
  rename_i kl nl kc nc hlv hcv
  split at hx
  case isFalse => cases hx
  rename_i hcond
  obtain ⟨h0, h1, h2, h3⟩ := hcond
  simp only [newA, Option.some.injEq, Prod.mk.injEq] at hx
  obtain ⟨rfl, rfl⟩ := hx
  have hr1 := conc_int (hρ _ _ _ hl hlv)
  have hr2 := conc_int (hρ _ _ _ hc hcv)
  refine snd_new (c := (List.replicate nc.toNat zv.cells.toList).flatten.toArray) (elem := e) (fz := (0, 0)) (e := 0) (d := w.drawn) (rest := []) (cv := .slice (some ⟨w.heap.size, 0, none⟩) nl.toNat nc.toNat) h hR (xs := (List.replicate nc.toNat zv.cells.toList).flatten) (fun ν _ => concs_rep (hzc ν) _) (by simp) (by simp) (fun _ => rfl) (by intro i _; simp) ?_ (by simp [conc, Place.add])
  unfold bytesB at hb
  simp only [Option.map_eq_some_iff] at hb
  obtain ⟨i, hi, hib⟩ := hb
  have w1 : IntKind.i64.wrap nl = nl := by
    simp [IntKind.wrap, IntKind.signed, IntKind.bits]; omega
  have w2 : IntKind.i64.wrap nc = nc := by
    simp [IntKind.wrap, IntKind.signed, IntKind.bits]; omega
  have hbig : ¬ ((i.bytes : Int) * nc > 2 ^ 48) := by rw [hib]; omega
  have hn1 : ¬ (nc < 0) := by omega
  have hn2 : ¬ (nl < 0) := by omega
  have hn3 : ¬ (nl > nc) := by omega
  have hrm := range_mod_flatten zv.cells nc.toNat
  rw [hzs] at hrm
  simp only [execOp, ho, Instr.makeSlice, Sem.run_bind, run_und hu, Result.andThen_ok, hr1, hr2, asInt, asIntOf, Sem.run_pure, run_info hi, w1, w2, hbig, hn1, hn2, hn3, decide_false, Bool.or_self, Bool.false_eq_true, if_false, run_askRoom, run_size hsz]
  by_cases hz0 : nc.toNat * sz = 0
  · have hz0' : Array.range 0 = #[] := by simp
    have he : (List.replicate nc.toNat zv.cells.toList).flatten.toArray = #[] := by rw [← hrm, hz0]; simp
    simp only [hz0, if_true, hz0', List.map_toArray, List.map_nil, he]
    simp [newRow]
  · simp only [if_neg hz0, Sem.run_bind, hzr, Result.andThen_ok, Sem.run_pure, hzs, hrm]
    simp [newRow]
end Go.Proofs.Yteffppdkofdmdaa.D
