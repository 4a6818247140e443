/- slices.SortFunc over structs, taken as known out of the kit's own proof of it. Plain laws; no program. -/
import Derived.Test.YtjejgnbdlfkenaaZh
import Derived.Shelf.SlSortCmp.Insertion
import Derived.Sort.AssemblyPlain
import Derived.Shelf.GgSortFunc.InsertionK
namespace Go.Proofs.Ytjejgnbdlfkenaa.D
set_option linter.unusedSimpArgs false
set_option linter.unusedVariables false
noncomputable section
open Go.RowKit Go.Proofs Go.Lib
set_option linter.unusedSectionVars false
variable {P : Program} {α : Type} [Inhabited α]

/-- How elements lie in cells. -/
structure Elt (α : Type) where
  k : Nat
  enc : α → List AV
  cnc : α → List Value
  dec : List AV → Option α
  dec_some : ∀ {l a}, dec l = some a → l = enc a
  concs : ∀ μ a, D.concs μ (enc a) = some (cnc a)
  len : ∀ a, (enc a).length = k
  one : ∀ a, ∀ v ∈ cnc a, v.oneCell' = true
  pos : 0 < k

theorem Elt.clen (E : Elt α) (a : α) : (E.cnc a).length = E.k := by rw [← E.len a]; exact (concs_length (E.concs (fun _ => none) a)).symm ▸ rfl

def decN (E : Elt α) : Nat → List AV → Option (List α)
  | 0, _ => some []
  | n + 1, l => match E.dec (l.take E.k), decN E n (l.drop E.k) with
    | some a, some r => some (a :: r)
    | _, _ => none

theorem decN_some (E : Elt α) : ∀ (n : Nat) (l : List AV) (r : List α), decN E n l = some r → r.length = n ∧ l.take (n * E.k) = r.flatMap E.enc
  | 0, l, r, h => by cases h; simp
  | n + 1, l, r, h => by
    unfold decN at h
    split at h
    · rename_i a r' ha hr
      cases h
      obtain ⟨h1, h2⟩ := decN_some E n _ _ hr
      refine ⟨by simp [h1], ?_⟩
      rw [List.flatMap_cons, ← E.dec_some ha, ← h2, Nat.succ_mul, Nat.add_comm, List.take_add]
    · cases h

theorem flat_len {β : Type} {f : α → List β} {k : Nat} (hf : ∀ a, (f a).length = k) : ∀ l : List α, (l.flatMap f).length = l.length * k
  | [] => by simp
  | a :: l => by rw [List.flatMap_cons, List.length_append, hf, flat_len hf l, List.length_cons, Nat.succ_mul, Nat.add_comm]
theorem flat_get {f : α → List Value} {k : Nat} (hk : 0 < k) (hf : ∀ a, (f a).length = k) : ∀ (l : List α) (t : Nat), t < l.length * k → (l.flatMap f)[t]? = some (f (l[t / k]!))[t % k]!
  | [], t, h => by simp at h
  | a :: l, t, h => by
    rw [List.flatMap_cons]
    by_cases ht : t < k
    · rw [List.getElem?_append_left (by rw [hf]; exact ht), Nat.div_eq_of_lt ht, Nat.mod_eq_of_lt ht]
      have hl : t < (f a).length := by rw [hf]; exact ht
      show _ = some (f a)[t]!
      rw [List.getElem?_eq_getElem hl, getElem!_pos (f a) t hl]
    · rw [List.getElem?_append_right (by rw [hf]; omega), hf, flat_get hk hf l (t - k) (by rw [List.length_cons, Nat.succ_mul] at h; omega)]
      obtain ⟨u, rfl⟩ : ∃ u, t = u + k := ⟨t - k, by omega⟩
      rw [Nat.add_sub_cancel, Nat.add_div_right _ hk, Nat.add_mod_right]
      rfl
theorem flat_flatK {f : α → List Value} {k : Nat} (hk : 0 < k) (hf : ∀ a, (f a).length = k) (d : Array α) : (Sort.flatK f k d).toList = d.toList.flatMap f := by
  apply List.ext_getElem?
  intro t
  by_cases ht : t < d.size * k
  · rw [flat_get hk hf d.toList t (by simpa using ht)]
    have hs : t < (Sort.flatK f k d).size := by rw [Sort.size_flatK]; exact ht
    rw [Array.getElem?_toList, Array.getElem?_eq_getElem hs]
    have := Sort.get_flatK f k d t ht
    rw [getElem!_pos (Sort.flatK f k d) t hs] at this
    rw [this]
    have hq : t / k < d.size := Nat.div_lt_of_lt_mul (by rw [Nat.mul_comm]; exact ht)
    congr 3
    simp [hq]
  · rw [List.getElem?_eq_none (by rw [Array.length_toList, Sort.size_flatK]; omega), List.getElem?_eq_none (by rw [flat_len hf, Array.length_toList]; omega)]

theorem concs_flat (E : Elt α) (μ : Place) : ∀ l : List α, D.concs μ (l.flatMap E.enc) = some (l.flatMap E.cnc)
  | [] => rfl
  | a :: l => by rw [List.flatMap_cons, List.flatMap_cons]; exact concs_append (E.concs μ a) (concs_flat E μ l)

def sortL (cf : α → α → Int) (l : List α) : List α := (Sort.pdq (ltOf cf) l.toArray 0 l.toArray.size (Lib.bitLen l.toArray.size) true true).toList

def sumSort (E : Elt α) (cf : α → α → Int) (g : Nat) : List AV → St → Option (AV × St)
  | [.slice b o n cap lo, .fn (.func g') [] []], s => if g' = g ∧ n < 4611686018427387904 then match s.get b with
    | some (.cells vs lo' false z) => if o + n * E.k ≤ vs.length then match decN E n (vs.drop o) with
        | some l => some (.tup [], s.put b (.cells (splice vs o ((sortL cf l).flatMap E.enc)) lo' false z))
        | none => none
      else none
    | _ => none
    else none
  | _, _ => none

/-- What the kit says of the sort. -/
def SortOk (P : Program) (E : Elt α) (cf : α → α → Int) (f g : Nat) : Prop := ∀ (blk off cap : Nat) (d : Array α) (w : World), Sort.HoldsK E.cnc E.k w blk off d → blk < w.heap.size → d.size < 4611686018427387904 →
  Calls P f #[.slice (some ⟨blk, off, none⟩) d.size cap, .func (.func g) #[] #[]] w fun e w' =>
    e = .returned (.tuple #[]) ∧ ∃ n os, w' = sortWorldK E.cnc E.k w blk off n (Sort.pdq (ltOf cf) d 0 d.size (Lib.bitLen d.size) true true) os

theorem flatK_at {f : α → List Value} {k : Nat} (d : Array α) (j : Nat) (h : j < d.size * k) {L : List Value} (e : (Sort.flatK f k d).toList = L) : L[j]? = some ((Sort.flatK f k d)[j]!) := by
  have hs : j < (Sort.flatK f k d).size := by rw [Sort.size_flatK]; exact h
  rw [← e, Array.getElem?_toList, Array.getElem?_eq_getElem hs, getElem!_pos (Sort.flatK f k d) j hs]

theorem putCells_list {o : Nat} {F c : Array Value} {xs rest ys : List Value} (h3 : c.toList = xs ++ rest) (hy : F.toList = ys) (hle : o + ys.length ≤ xs.length) :
    (Sort.putCells id o F c).toList = (xs.take o ++ ys ++ xs.drop (o + ys.length)) ++ rest := by
  apply List.ext_getElem?
  intro t
  have hF : F.size = ys.length := by rw [← hy, Array.length_toList]
  rw [Array.getElem?_toList]
  unfold Sort.putCells
  rw [Array.getElem?_mapIdx, ← Array.getElem?_toList, h3, hF, List.append_assoc, List.append_assoc]
  have ho : (xs.take o).length = o := by rw [List.length_take]; omega
  by_cases h1 : t < o
  · rw [List.getElem?_append_left (l₁ := xs.take o) (by omega), List.getElem?_take_of_lt h1, List.getElem?_append_left (by omega)]
    have hn : ¬ (o ≤ t ∧ t < o + ys.length) := by omega
    simp only [hn, if_false]
    cases xs[t]? <;> rfl
  · rw [List.getElem?_append_right (l₁ := xs.take o) (by omega), ho]
    by_cases h2 : t < o + ys.length
    · have hy1 : (o ≤ t ∧ t < o + ys.length) := by omega
      have htF : t - o < F.size := by omega
      rw [List.getElem?_append_left (l₁ := ys) (by omega), List.getElem?_append_left (by omega), List.getElem?_eq_getElem (by omega : t < xs.length)]
      simp only [hy1, and_self, if_true, Option.map_some, id]
      rw [getElem!_pos F (t - o) htF, ← hy, Array.getElem?_toList, Array.getElem?_eq_getElem htF]
    · have hn : ¬ (o ≤ t ∧ t < o + ys.length) := by omega
      rw [List.getElem?_append_right (l₁ := ys) (by omega), ← List.drop_append_of_le_length (by omega), List.getElem?_drop]
      simp only [hn, if_false]
      rw [show o + ys.length + (t - o - ys.length) = t by omega]
      cases (xs ++ rest)[t]? <;> rfl

theorem sumSort_ok {E : Elt α} {cf : α → α → Int} {f g : Nat} (hs : SortOk P E cf f g) (hO : Sort.SWO (ltOf cf)) {args : List AV} {s s' : St} {v : AV} {R : Nat} {μ : Place} {w : World} {cargs : List Value} (hx : sumSort E cf g args s = some (v, s')) (hR : s'.next ≤ R) (h : HR P R μ s w) (hc : concs μ args = some cargs) :
    Calls P f cargs.toArray w (Rets P R μ s w v s') := by
  unfold sumSort at hx
  split at hx
  case h_2 => cases hx
  rename_i b o n cap lo g'
  split at hx
  case isFalse => cases hx
  rename_i hg
  obtain ⟨rfl, hn⟩ := hg
  split at hx
  case h_2 => cases hx
  rename_i vs lo' z hb
  split at hx
  case isFalse => cases hx
  rename_i hle
  split at hx
  case h_2 => cases hx
  rename_i l hl
  cases hx
  obtain ⟨p, hp, c, el, fz, xs, rest, h1, h2, h3, h4, h5, h6⟩ := h.obj _ _ hb
  obtain ⟨hln, htk⟩ := decN_some E n _ _ hl
  have hcl := E.clen
  have hplt := (h.lt _ _ hp).1
  -- the cells
  have hxl := concs_length h2
  have hflat : (xs.drop o).take (n * E.k) = l.flatMap E.cnc := by
    have a1 := concs_take (concs_drop h2 o) (n * E.k)
    rw [htk, concs_flat E μ l] at a1
    exact (Option.some.inj a1).symm
  have hfk := flat_flatK E.pos hcl l.toArray
  have hsz : l.toArray.size = n := by simpa using hln
  have hH : Sort.HoldsK E.cnc E.k w p.1 o l.toArray := by
    intro j hj
    rw [Sort.size_flatK, hsz] at hj
    have hjc : o + j < c.size := by rw [← Array.length_toList, h3, List.length_append]; omega
    have hcell : c[o + j]? = some ((Sort.flatK E.cnc E.k l.toArray)[j]!) := by
      rw [← Array.getElem?_toList, h3, List.getElem?_append_left (by omega), ← List.getElem?_drop, ← List.getElem?_take_of_lt hj, hflat]
      exact flatK_at l.toArray j (by rw [hsz]; exact hj) hfk
    refine ⟨?_, ?_⟩
    · simp only [World.cell?, h1, hcell]; rfl
    · have := h6 rfl (o + j) hjc
      simp [World.frozen?, h1]
      intro; omega
  have hcargs : cargs = [.slice (some ⟨p.1, o, none⟩) n (if lo then cap + p.2 else cap), .func (.func g') #[] #[]] := by
    simp [concs, conc, hp, Fn.plain] at hc
    exact hc.symm
  subst hcargs
  have key := hs p.1 o (if lo then cap + p.2 else cap) l.toArray w hH hplt (by rw [hsz]; exact hn)
  rw [hsz] at key
  refine key.mono ?_
  rintro e w' ⟨rfl, m, os, rfl⟩
  have hperm := (Go.Sort.pdq_sorts (ltOf cf) hO l.toArray 0 l.toArray.size (Lib.bitLen l.toArray.size) true true (Nat.zero_le _) (Nat.le_refl _) (Or.inl rfl)).1.1
  have hsl : (sortL cf l) = (Sort.pdq (ltOf cf) l.toArray 0 n (Lib.bitLen n) true true).toList := by unfold sortL; rw [hsz]
  rw [hsl] at hR ⊢
  rw [hsz] at hperm
  generalize Sort.pdq (ltOf cf) l.toArray 0 n (Lib.bitLen n) true true = d' at hperm hR ⊢
  have hfl := flat_flatK E.pos hcl d'
  have hly : (d'.toList.flatMap E.cnc).length = n * E.k := by rw [flat_len hcl, Array.length_toList, hperm]
  have hput := putCells_list (o := o) h3 hfl (by rw [hly]; omega)
  have hRs : s.next ≤ R := by simpa using hR
  obtain ⟨t1, t2⟩ := h.turn (w' := Sort.putRowK E.cnc E.k (Sort.ahead w m) p.1 o d') hRs hb hp (by simp) (o' := .cells (splice vs o (d'.toList.flatMap E.enc)) lo' false z)
    ⟨Sort.putCells id o (Sort.flatK E.cnc E.k d') c, el, fz, _, rest, by
      simp only [Sort.putRowK, Sort.putRow, Sort.mapBlock, Sort.ahead, Array.getElem?_modify, h1, if_true, Option.map_some, Sort.onCells], concs_splice h2 (concs_flat E μ d'.toList) o, hput, h4, h5, fun hf i hi => h6 hf i (by simpa [Sort.putCells] using hi)⟩
    rfl rfl ⟨rfl, fun _ => Nat.le_add_right _ _⟩ (by simp [Sort.putRowK, Sort.putRow, Sort.mapBlock, Sort.ahead]) (fun k hk => by
      simp only [Sort.putRowK, Sort.putRow, Sort.mapBlock, Sort.ahead, Array.getElem?_modify]
      rw [if_neg (Ne.symm hk)])
  have hbel : Below (Sort.putRowK E.cnc E.k (Sort.ahead w m) p.1 o d').heap.size (Sort.putRowK E.cnc E.k (Sort.ahead w m) p.1 o d') (sortWorldK E.cnc E.k w p.1 o m d' os) := by
    unfold sortWorldK Sort.grow
    refine ⟨rfl, rfl, rfl, by simp, fun k hk => ?_⟩
    show (_ ++ os)[k]? = _
    rw [Array.getElem?_append_left hk]
  exact ⟨μ, rfl, t1.below hbel, t2.trans (Mv.of_below t1 (by simpa using hR) hbel ⟨rfl, fun _ => Nat.le_refl _⟩)⟩

theorem sumsOk_addF {SM : Sums} {f : Nat} {g : List AV → St → Option (AV × St)} (hfn : ∃ fn, P.funcs[f]? = some fn ∧ fn.body.isNone = false ∧ (fn.name == "runtime.NumGoroutine") = false)
    (hg : ∀ {args s v s' R μ w cargs}, g args s = some (v, s') → s'.next ≤ R → HR P R μ s w → concs μ args = some cargs → Calls P f cargs.toArray w (Rets P R μ s w v s')) (h : SumsOk P SM) : SumsOk P (addSum SM f g) := by
  intro k g' hk args s v s' R μ w cargs hx hR hr hc
  unfold addSum at hk
  split at hk
  · rename_i e
    subst e
    cases hk
    exact ⟨hfn, fun n => callsIn_wide.2 (hg hx hR hr hc)⟩
  · exact h k g' hk hx hR hr hc
theorem sumsNext_addF {SM : Sums} {f : Nat} {g : List AV → St → Option (AV × St)} (hg : ∀ args s v s', g args s = some (v, s') → s.next ≤ s'.next) (h : SumsNext SM) : SumsNext (addSum SM f g) := by
  intro k g' args s v s' hk hx
  unfold addSum at hk
  split at hk
  · cases hk; exact hg args s v s' hx
  · exact h k g' args s v s' hk hx

/-- The sort, of nothing too. -/
def sumSortN (E : Elt α) (cf : α → α → Int) (g : Nat) : List AV → St → Option (AV × St)
  | [.nilSlice, .fn (.func g') [] []], s => if g' = g then some (.tup [], s) else none
  | a, s => sumSort E cf g a s

theorem sumSort_next {E : Elt α} {cf : α → α → Int} {g : Nat} {args : List AV} {s s' : St} {v : AV} (hx : sumSort E cf g args s = some (v, s')) : s'.next = s.next := by
  unfold sumSort at hx
  split at hx
  case h_2 => cases hx
  split at hx
  case isFalse => cases hx
  split at hx
  case h_2 => cases hx
  split at hx
  case isFalse => cases hx
  split at hx
  case h_2 => cases hx
  cases hx
  rfl
theorem sumSortN_next {E : Elt α} {cf : α → α → Int} {g : Nat} (args : List AV) (s : St) (v : AV) (s' : St) (hx : sumSortN E cf g args s = some (v, s')) : s.next ≤ s'.next := by
  unfold sumSortN at hx
  split at hx
  · split at hx
    · cases hx; exact Nat.le_refl _
    · cases hx
  · exact Nat.le_of_eq (sumSort_next hx).symm

theorem sumSortN_ok {E : Elt α} {cf : α → α → Int} {f g : Nat} (hs : SortOk P E cf f g) (hO : Sort.SWO (ltOf cf)) (hnil : ∀ w, Calls P f #[.slice none 0 0, .func (.func g) #[] #[]] w fun e w' => e = .returned (.tuple #[]) ∧ w' = w)
    {args : List AV} {s s' : St} {v : AV} {R : Nat} {μ : Place} {w : World} {cargs : List Value} (hx : sumSortN E cf g args s = some (v, s')) (hR : s'.next ≤ R) (h : HR P R μ s w) (hc : concs μ args = some cargs) :
    Calls P f cargs.toArray w (Rets P R μ s w v s') := by
  unfold sumSortN at hx
  split at hx
  · split at hx
    · rename_i e
      subst e
      cases hx
      simp [concs, conc, Fn.plain] at hc
      subst hc
      refine (hnil w).mono ?_
      rintro e w' ⟨rfl, rfl⟩
      exact ⟨μ, rfl, h, Mv.refl h hR⟩
    · cases hx
  · exact sumSort_ok hs hO hx hR h hc

theorem grown_of {W w' : World} (hb : Below W.heap.size W w') (ht : TapeLe W w') : ∃ q os', w' = Sort.grow (W.drewN q) os' := by
  refine ⟨w'.drawn - W.drawn, w'.heap.extract W.heap.size w'.heap.size, ?_⟩
  obtain ⟨heap, tape, drawn, os, out⟩ := W
  obtain ⟨heap', tape', drawn', os', out'⟩ := w'
  have h1 := hb.os
  have h2 := hb.output
  have h3 := hb.tape
  have h4 := ht.dr rfl
  have h5 := hb.size
  have h6 := hb.block
  dsimp only at *
  subst h1; subst h2; subst h3
  have h7 : drawn + (drawn' - drawn) = drawn' := by omega
  have h8 : heap ++ heap'.extract heap.size heap'.size = heap' := by
    apply Array.ext_getElem?
    intro i
    by_cases hi : i < heap.size
    · rw [Array.getElem?_append_left hi, h6 i hi]
    · rw [Array.getElem?_append_right (by omega), Array.getElem?_extract]
      by_cases hj : i < heap'.size
      · rw [if_pos (by omega), show heap.size + (i - heap.size) = i by omega]
      · rw [if_neg (by omega), Array.getElem?_eq_none (by omega)]
  simp only [Sort.grow, World.drewN, h7, h8]

/-- What a comparison of values answers, wherever it is called. -/
theorem cmp_calls {FT : Fns} {SM : Sums} (hm : P.follows .mixedOrders = true) (hFT : FnsOk P FT) (hSM : SumsOk P SM) (hSN : SumsNext SM) {E : Elt α} {g : Nat} {x y : α} {r : Int} {s' : St}
    (h : (lim FT SM).call g [.agg (E.enc x), .agg (E.enc y)] St.empty = some (.int .i64 r, s')) (W : World) :
    Calls P g #[.agg (E.cnc x).toArray, .agg (E.cnc y).toArray] W fun e w' => e = .returned (.int .i64 r) ∧ ∃ q os', w' = Sort.grow (W.drewN q) os' := by
  obtain ⟨n, hn⟩ := of_some1 h
  have hc : concs (fun _ => none) [.agg (E.enc x), .agg (E.enc y)] = some [.agg (E.cnc x).toArray, .agg (E.cnc y).toArray] := by
    simp [concs, conc, E.concs]
  have key := callsIn_wide.1 (((eng_sound hm hFT hSM hSN n).call hn (Nat.le_refl _) (HR.empty s'.next W) hc).2 0)
  refine key.mono ?_
  intro e w' he
  cases e with
  | returned c =>
    obtain ⟨ν, h1, _, h3⟩ := he
    simp only [conc, Option.some.injEq] at h1
    subst h1
    exact ⟨rfl, grown_of h3.below h3.tape⟩
  | panicked _ => exact he.elim
  | outgrown => exact he.elim
end
end Go.Proofs.Ytjejgnbdlfkenaa.D
