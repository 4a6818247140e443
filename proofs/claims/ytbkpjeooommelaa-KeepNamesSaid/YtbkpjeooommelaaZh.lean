/- keep.spans: what is known of it.
The machine of this seat: its functions, what is known of keep.spans, and of a check that asks for nothing. Printed by a program. -/
import Derived.Test.YtbkpjeooommelaaZg
import Derived.KernelRfl
namespace Go.Proofs.Ytbkpjeooommelaa.Base
open D
set_option linter.unusedSimpArgs false
set_option linter.unusedVariables false
set_option maxRecDepth 10000

def decSn : Nat → List AV → Option (List Sn)
  | 0, _ => some []
  | n + 1, l => match l with
    | .int .u32 e :: .int .u32 q :: .int .i64 r :: .int .u32 t :: l => if 0 ≤ t ∧ t ≤ 4294967295 then match decSn n l with
        | some xs => some (⟨⟨e, q⟩, r, t⟩ :: xs)
        | none => none
      else none
    | _ => none
noncomputable def readSn (s : St) : AV → Option (List Sn)
  | .nilSlice => some []
  | .raw (.slice _ 0 _) => some []
  | .slice b o len _ _ => if 4 * len ≤ 4000000 then match loadA s b o (len * 4) with
      | some l => decSn len l
      | none => none
    else none
  | _ => none
theorem decSn_some : ∀ {n : Nat} {l : List AV} {xs : List Sn}, decSn n l = some xs → xs.length = n ∧ (∀ x ∈ xs, 0 ≤ x.t ∧ x.t ≤ 4294967295) ∧ ∀ j (h : j < xs.length), j * 4 + 4 ≤ l.length ∧ (l.drop (j * 4)).take 4 = xs[j].enc
  | 0, _, _, h => by cases h; exact ⟨rfl, by simp, fun j h => by simp at h⟩
  | n + 1, l, xs, h => by
    simp only [decSn] at h
    split at h
    · rename_i e q r t l'
      split at h
      · rename_i ht
        split at h
        · rename_i ys hys
          cases h
          obtain ⟨h1, h2, h3⟩ := decSn_some hys
          refine ⟨by simp [h1], ?_, ?_⟩
          · intro x hx
            rcases List.mem_cons.1 hx with rfl | hx
            · exact ht
            · exact h2 x hx
          · intro j hj
            cases j with
            | zero => exact ⟨by simp, rfl⟩
            | succ j =>
              obtain ⟨q1, q2⟩ := h3 j (by simpa using hj)
              refine ⟨by simp; omega, ?_⟩
              rw [Nat.succ_mul, List.getElem_cons_succ, ← q2, show j * 4 + 4 = (j * 4) + 1 + 1 + 1 + 1 by omega]
              simp only [List.drop_succ_cons]
        · cases h
      · cases h
    · cases h

theorem readSn_rd {R : Nat} {μ : D.Place} {s : St} {w : World} {v : AV} {xs : List Sn} (h : readSn s v = some xs) (hr : HR Try.prog R μ s w) : Rd s v 4 (xs.map Sn.enc) ∧ xs.length ≤ 1000000 ∧ ∀ x ∈ xs, 0 ≤ x.t ∧ x.t ≤ 4294967295 := by
  unfold readSn at h
  split at h
  · cases h; exact ⟨⟨fun _ => rfl, by simp, fun h => by simp at h⟩, by simp, by simp⟩
  · cases h; exact ⟨⟨fun _ => rfl, by simp, fun h => by simp at h⟩, by simp, by simp⟩
  · rename_i b o len cap lo
    split at h
    · rename_i hlen
      split at h
      · rename_i l hl
        obtain ⟨h1, h2, h3⟩ := decSn_some h
        obtain ⟨vs, lo2, ro, z, g1, g2, rfl⟩ := loadA_some hl
        refine ⟨⟨fun s' => by rw [List.length_map, h1]; rfl, by rw [List.length_map, h1]; unfold maxLen; omega, fun _ => ⟨b, o, cap, lo, vs, lo2, ro, z, by rw [List.length_map, h1], g1, hr.dom _ _ g1, fun j hj => ?_⟩⟩, by omega, h2⟩
        rw [List.length_map] at hj
        obtain ⟨q1, q2⟩ := h3 j hj
        rw [List.length_take, List.length_drop] at q1
        refine ⟨by omega, ?_⟩
        rw [List.getElem_map, ← q2, List.drop_take, List.take_take, List.drop_drop, Nat.min_eq_left (by omega)]
      · cases h
    · cases h
  · cases h

/-- What keep.spans answers, where there are few spans. -/
noncomputable def sumSpans : List AV → St → Option (AV × St)
  | [.int .u32 span, v], s => if 0 < span then match readSn s v with
      | some l => if (bestOf span l).length ≤ 12 then match spansV span l with
          | [] => some (.nilSlice, s.skip (8 * l.length + 100))
          | x :: r => some (.slice (s.next + (8 * l.length + 100)) 0 (r.length + 1) (r.length + 1) true, (s.skip (8 * l.length + 100)).new (.cells ((x :: r).flatMap Lb.enc) true false 2))
        else none
      | none => none
    else none
  | _, _ => none

theorem concs_ints (μ : D.Place) : ∀ L : List Lb, concs μ (L.flatMap Lb.enc) = some (L.flatMap fun x => [Value.int .u32 x.e, Value.int .u32 x.q])
  | [] => rfl
  | x :: r => by rw [List.flatMap_cons, List.flatMap_cons]; exact concs_append rfl (concs_ints μ r)

theorem sumSpans_ok {args : List AV} {s s' : St} {v : AV} {R : Nat} {μ : D.Place} {w : World} {cargs : List Value} (hx : sumSpans args s = some (v, s')) (hR : s'.next ≤ R) (h : HR Try.prog R μ s w) (hc : concs μ args = some cargs) :
    ∀ n, CallsIn Fence.wide n Try.prog 17 cargs.toArray w (Rets Try.prog R μ s w v s') := by
  unfold sumSpans at hx
  split at hx
  case h_2 => cases hx
  rename_i span u
  split at hx
  case isFalse => cases hx
  rename_i hsp
  split at hx
  case h_2 => cases hx
  rename_i l hl
  split at hx
  case isFalse => cases hx
  rename_i hb
  obtain ⟨hrd, hl2, ht⟩ := readSn_rd hl h
  have hnx : s.next + 8 * l.length + 100 ≤ R := by
    split at hx <;> cases hx
    · simp only [St.next_skip] at hR; omega
    · simp only [St.next_new, St.next_skip] at hR; omega
  intro n
  refine (spans_run hsp l ht hl2 hb hrd hnx μ w cargs h hc n).mono ?_
  rintro e w' ⟨v1, s1, ⟨ho, hf, hn⟩, hr⟩
  cases e with
  | panicked _ => exact hr.elim
  | outgrown => exact hr.elim
  | returned c =>
    split at hx
    · rename_i hV
      cases hx
      rw [hV] at ho
      rcases ho with ⟨rfl, _⟩ | ⟨p, _, h1, _⟩
      · exact canon0 h hr hf (by omega) (by omega) fun ν h => h
      · simp at h1
    · rename_i x r hV
      cases hx
      rw [hV] at ho
      rcases ho with ⟨_, h1⟩ | ⟨p, rfl, h1, h2, h3, h4⟩
      · cases h1
      · refine canon h hr hf (by omega) (by simp only [St.next_new, St.next_skip] at hR; omega) h2 h4 fun ν ν' hle hp hv => ?_
        simp only [conc, hp] at hv ⊢
        exact hv
theorem sumSpans_next (args : List AV) (s : St) (v : AV) (s' : St) (hx : sumSpans args s = some (v, s')) : s.next ≤ s'.next := by
  unfold sumSpans at hx
  repeat' split at hx
  all_goals first
    | (cases hx; done)
    | (cases hx; simp only [St.next_new, St.next_skip]; omega)
end Go.Proofs.Ytbkpjeooommelaa.Base
namespace Go.Proofs.Ytbkpjeooommelaa
open D
noncomputable def SM1 : Sums := addSum noSums 17 Base.sumSpans
theorem SM1_ok : SumsOk Try.prog SM1 := sumsOk_addI ⟨_, Try.func17, by kernel_rfl, by kernel_rfl⟩ Base.sumSpans_ok noSums_ok
theorem SM1_next : SumsNext SM1 := sumsNext_addI Base.sumSpans_next noSums_next
noncomputable def mm : Mach := ⟨tab.get, addSum SM1 8 aliveSum⟩
set_option maxRecDepth 100000 in
theorem alive_ran : isTrue ((eng tab.get SM1 200).call 8 [] St.empty) = true := by kernel_rfl
theorem mm_mixed : Try.prog.follows .mixedOrders = true := by kernel_rfl
theorem mm_ft : FnsOk Try.prog mm.FT := tab_ok
theorem mm_sm : SumsOk Try.prog mm.SM := sumsOk_add mm_mixed tab_ok SM1_ok SM1_next alive_ran SM1_ok
theorem mm_sn : SumsNext mm.SM := sumsNext_add SM1_next 8
theorem sm {f : Nat} (h : f ≠ 8 ∧ f ≠ 17) : mm.SM f = none := (addSum_ne h.1).trans (addSum_ne h.2)
theorem alive_eq (s : St) : mm.L.call 8 [] s = some (.bool true, s) := by
  rw [lim_call]
  unfold callStep
  rw [show mm.SM 8 = some aliveSum by show addSum SM1 8 aliveSum 8 = _; exact addSum_eq]
  rfl
theorem spans_eq (args : List AV) (s : St) : mm.L.call 17 args s = Base.sumSpans args s := by
  rw [lim_call]
  unfold callStep
  rw [show mm.SM 17 = some Base.sumSpans by show addSum SM1 8 aliveSum 17 = _; rw [addSum_ne (by decide)]; exact addSum_eq]
theorem ft2 : mm.FT 2 = some fd2 := Base.ft2
theorem ft3 : mm.FT 3 = some fd3 := Base.ft3
theorem ft4 : mm.FT 4 = some fd4 := Base.ft4
theorem ft5 : mm.FT 5 = some fd5 := Base.ft5
theorem ft6 : mm.FT 6 = some fd6 := Base.ft6
theorem ft7 : mm.FT 7 = some fd7 := Base.ft7
theorem ft8 : mm.FT 8 = some fd8 := Base.ft8
theorem ft9 : mm.FT 9 = some fd9 := Base.ft9
theorem ft10 : mm.FT 10 = some fd10 := Base.ft10
theorem ft11 : mm.FT 11 = some fd11 := Base.ft11
theorem ft12 : mm.FT 12 = some fd12 := Base.ft12
theorem ft13 : mm.FT 13 = some fd13 := Base.ft13
theorem ft14 : mm.FT 14 = some fd14 := Base.ft14
theorem ft15 : mm.FT 15 = some fd15 := Base.ft15
theorem ft16 : mm.FT 16 = some fd16 := Base.ft16
theorem ft17 : mm.FT 17 = some fd17 := Base.ft17
theorem ft18 : mm.FT 18 = some fd18 := Base.ft18
theorem ft19 : mm.FT 19 = some fd19 := Base.ft19
theorem ft20 : mm.FT 20 = some fd20 := Base.ft20
theorem ft21 : mm.FT 21 = some fd21 := Base.ft21
theorem ft22 : mm.FT 22 = some fd22 := Base.ft22
theorem ft23 : mm.FT 23 = some fd23 := Base.ft23
theorem ft24 : mm.FT 24 = some fd24 := Base.ft24
theorem ft25 : mm.FT 25 = some fd25 := Base.ft25
theorem ft26 : mm.FT 26 = some fd26 := Base.ft26
theorem ft27 : mm.FT 27 = some fd27 := Base.ft27
theorem ft28 : mm.FT 28 = some fd28 := Base.ft28
theorem ft29 : mm.FT 29 = some fd29 := Base.ft29
theorem ft30 : mm.FT 30 = some fd30 := Base.ft30
theorem ft31 : mm.FT 31 = some fd31 := Base.ft31
theorem ft32 : mm.FT 32 = some fd32 := Base.ft32
theorem ft33 : mm.FT 33 = some fd33 := Base.ft33
theorem ft34 : mm.FT 34 = some fd34 := Base.ft34
theorem ft35 : mm.FT 35 = some fd35 := Base.ft35
theorem ft36 : mm.FT 36 = some fd36 := Base.ft36
theorem ft37 : mm.FT 37 = some fd37 := Base.ft37
theorem ft38 : mm.FT 38 = some fd38 := Base.ft38
theorem ft39 : mm.FT 39 = some fd39 := Base.ft39
theorem ft40 : mm.FT 40 = some fd40 := Base.ft40
theorem ft41 : mm.FT 41 = some fd41 := Base.ft41
theorem ft42 : mm.FT 42 = some fd42 := Base.ft42
theorem ft43 : mm.FT 43 = some fd43 := Base.ft43
theorem ft44 : mm.FT 44 = some fd44 := Base.ft44
theorem ft45 : mm.FT 45 = some fd45 := Base.ft45
theorem ft46 : mm.FT 46 = some fd46 := Base.ft46
theorem ft47 : mm.FT 47 = some fd47 := Base.ft47
theorem ft48 : mm.FT 48 = some fd48 := Base.ft48
theorem ft49 : mm.FT 49 = some fd49 := Base.ft49
theorem ft50 : mm.FT 50 = some fd50 := Base.ft50
theorem ft51 : mm.FT 51 = some fd51 := Base.ft51
theorem ft52 : mm.FT 52 = some fd52 := Base.ft52
theorem ft53 : mm.FT 53 = some fd53 := Base.ft53
theorem ft54 : mm.FT 54 = some fd54 := Base.ft54
theorem ft55 : mm.FT 55 = some fd55 := Base.ft55
theorem ft56 : mm.FT 56 = some fd56 := Base.ft56
theorem ft57 : mm.FT 57 = some fd57 := Base.ft57
theorem ft58 : mm.FT 58 = some fd58 := Base.ft58
theorem ft59 : mm.FT 59 = some fd59 := Base.ft59
theorem ft60 : mm.FT 60 = some fd60 := Base.ft60
theorem ft61 : mm.FT 61 = some fd61 := Base.ft61
theorem ft62 : mm.FT 62 = some fd62 := Base.ft62
theorem ft63 : mm.FT 63 = some fd63 := Base.ft63
theorem ft64 : mm.FT 64 = some fd64 := Base.ft64
end Go.Proofs.Ytbkpjeooommelaa
