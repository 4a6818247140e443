/- The abstract machine without a measure: what it answers with enough at hand; and that it answers step by step. Plain laws; no program. -/
import Derived.Test.YteffppdkofdmdaaDLaw
namespace Go.Proofs.Yteffppdkofdmdaa.D
noncomputable section

/-- What one answers, another one answers. -/
def OLe {α : Type} (a b : Option α) : Prop := ∀ r, a = some r → b = some r
structure Eng.le (e e' : Eng) : Prop where
  call : ∀ f a s, OLe (e.call f a s) (e'.call f a s)
  ex : ∀ ro c ts ds s, OLe (e.ex ro c ts ds s) (e'.ex ro c ts ds s)

theorem Eng.le_refl (e : Eng) : e.le e := ⟨fun _ _ _ _ h => h, fun _ _ _ _ _ _ h => h⟩
theorem Eng.le_trans {a b c : Eng} (h : a.le b) (k : b.le c) : a.le c := ⟨fun f x s r e => k.call f x s r (h.call f x s r e), fun ro x ts ds s r e => k.ex ro x ts ds s r (h.ex ro x ts ds s r e)⟩

structure Sup (E : Nat → Eng) (L : Eng) : Prop where
  up : ∀ n, (E n).le (E (n + 1))
  le : ∀ n, (E n).le L
  call : ∀ f a s r, L.call f a s = some r → ∃ n, (E n).call f a s = some r
  ex : ∀ ro c ts ds s r, L.ex ro c ts ds s = some r → ∃ n, (E n).ex ro c ts ds s = some r

theorem Sup.mono {E : Nat → Eng} {L : Eng} (h : Sup E L) {n m : Nat} (k : n ≤ m) : (E n).le (E m) := by
  induction m with
  | zero => cases Nat.le_zero.1 k; exact Eng.le_refl _
  | succ m ih =>
    by_cases e : n = m + 1
    · subst e; exact Eng.le_refl _
    · exact Eng.le_trans (ih (by omega)) (h.up m)

/-- What a step asks of the machine it asks finitely often. -/
structure Cont {α : Type} (a : Eng → Option α) : Prop where
  mono : ∀ e e', e.le e' → OLe (a e) (a e')
  fin : ∀ E L, Sup E L → ∀ r, a L = some r → ∃ n, a (E n) = some r

section
variable {α β : Type}
theorem Cont.const (x : Option α) : Cont fun _ => x := ⟨fun _ _ _ _ h => h, fun _ _ _ _ h => ⟨0, h⟩⟩
theorem Cont.call (f : Nat) (a : List AV) (s : St) : Cont fun e => e.call f a s := ⟨fun _ _ h => h.call f a s, fun _ _ h r e => h.call f a s r e⟩
theorem Cont.ex (ro : Option Nat) (c : PC) (ts : Tr AV) (ds : List Nat) (s : St) : Cont fun e => e.ex ro c ts ds s := ⟨fun _ _ h => h.ex ro c ts ds s, fun _ _ h r e => h.ex ro c ts ds s r e⟩
theorem Cont.bind {f : Eng → Option α} {g : α → Eng → Option β} (hf : Cont f) (hg : ∀ x, Cont (g x)) : Cont fun e => (f e).bind fun x => g x e := by
  refine ⟨fun e e' h r hr => ?_, fun E L h r hr => ?_⟩
  · simp only [Option.bind_eq_some_iff] at hr ⊢
    obtain ⟨x, h1, h2⟩ := hr
    exact ⟨x, hf.mono e e' h x h1, (hg x).mono e e' h r h2⟩
  · simp only [Option.bind_eq_some_iff] at hr ⊢
    obtain ⟨x, h1, h2⟩ := hr
    obtain ⟨n, hn⟩ := hf.fin E L h x h1
    obtain ⟨m, hm⟩ := (hg x).fin E L h r h2
    exact ⟨max n m, x, hf.mono _ _ (h.mono (Nat.le_max_left n m)) x hn, (hg x).mono _ _ (h.mono (Nat.le_max_right n m)) r hm⟩
theorem Cont.of_eq {a b : Eng → Option α} (h : Cont a) (e : ∀ x, b x = a x) : Cont b := by
  have : b = a := funext e
  rw [this]; exact h
end

theorem cont_roundA (r : Nat) (args : List AV) (s : St) : Cont fun e => roundA e r args s := by
  unfold roundA
  split
  · split
    · rename_i ts params assign body _ _ _
      refine (Cont.bind (g := fun y e => match y with
        | (.normal, ts1, [], s1) => match s1.get r with
          | some (.loop .ready pe ts2 ps2 a2 b2 d2) =>
            match e.ex (some r) body ts1 [] (s1.put r (.loop .busy pe ts2 ps2 a2 b2 d2)) with
            | some (x, _, [], s3) => match s3.get r with
              | some (.loop _ _ ts3 ps3 a3 b3 d3) =>
                match x with
                | .normal => some (AV.bool true, s3.put r (.loop .ready .normal ts3 ps3 a3 b3 d3))
                | x => some (.bool false, s3.put r (.loop .done x ts3 ps3 a3 b3 d3))
              | _ => none
            | _ => none
          | _ => none
        | _ => none) (Cont.ex (some r) assign (setTs params args ts) [] s) ?_).of_eq ?_
      · rintro ⟨x, ts1, ds, s1⟩
        split
        · rename_i hy; cases hy
          split
          · rename_i pe ts2 ps2 a2 b2 d2 _
            refine (Cont.bind (g := fun y _ => match y with
              | (x, _, [], s3) => match s3.get r with
                | some (.loop _ _ ts3 ps3 a3 b3 d3) =>
                  match x with
                  | .normal => some (AV.bool true, s3.put r (.loop .ready .normal ts3 ps3 a3 b3 d3))
                  | x => some (.bool false, s3.put r (.loop .done x ts3 ps3 a3 b3 d3))
                | _ => none
              | _ => none) (Cont.ex (some r) body ts1 [] (s1.put r (.loop .busy pe ts2 ps2 a2 b2 d2))) (fun _ => Cont.const _)).of_eq ?_
            intro e
            cases e.ex (some r) body ts1 [] (s1.put r (.loop .busy pe ts2 ps2 a2 b2 d2)) with
            | none => rfl
            | some y => obtain ⟨x, t, ds, s3⟩ := y; cases ds <;> rfl
          · exact Cont.const _
        · exact Cont.const _
      · intro e
        cases e.ex (some r) assign (setTs params args ts) [] s with
        | none => rfl
        | some y => obtain ⟨x, t, ds, s3⟩ := y; cases x <;> cases ds <;> rfl
    · exact Cont.const _
  · exact Cont.const _

theorem cont_callV (f : AV) (args : List AV) (s : St) : Cont fun e => callV e f args s := by
  unfold callV
  split
  · exact Cont.call _ _ _
  · exact cont_roundA _ _ _
  · exact Cont.const _

theorem cont_opVal (p : POp) (ev : Ev) (s : St) : Cont fun e => opVal e p ev s := by
  cases p with
  | call f args =>
    unfold opVal
    dsimp only
    cases ev f with
    | none => exact Cont.const _
    | some fv =>
      cases evs ev args with
      | none => exact Cont.const _
      | some l => exact cont_callV fv l s
  | _ => exact Cont.const _

theorem cont_opStep (p : PO) (ts : Tr AV) (s : St) : Cont fun e => opStep e p ts s := by
  unfold opStep
  cases wantedA p.guard ts with
  | none => exact Cont.const _
  | some b =>
    cases b with
    | false => exact Cont.const _
    | true =>
      refine (Cont.bind (g := fun y _ => some (putT p.dst y.1 ts, y.2)) (cont_opVal p.op (evOf ts) s) (fun _ => Cont.const _)).of_eq ?_
      intro e
      cases opVal e p.op (evOf ts) s <;> rfl

theorem cont_runOps : ∀ (l : List PO) (ts : Tr AV) (s : St), Cont fun e => runOps e l ts s
  | [], _, _ => Cont.const _
  | p :: r, ts, s => by
    refine (Cont.bind (g := fun y e => runOps e r y.1 y.2) (cont_opStep p ts s) (fun y => cont_runOps r y.1 y.2)).of_eq ?_
    intro e
    simp only [runOps]
    cases opStep e p ts s <;> rfl

theorem cont_runSnaps : ∀ (l : List PO) (ts : Tr AV) (s : St) (acc : List St), Cont fun e => runSnaps e l ts s acc
  | [], _, _, _ => Cont.const _
  | p :: r, ts, s, acc => by
    refine (Cont.bind (g := fun y e => runSnaps e r y.1 y.2 (s :: acc)) (cont_opStep p ts s) (fun y => cont_runSnaps r y.1 y.2 _)).of_eq ?_
    intro e
    simp only [runSnaps]
    cases opStep e p ts s <;> rfl

theorem cont_rangeA (ro : Option Nat) (f : AV) (params : List Nat) (assign body : PC) (ts : Tr AV) (ds : List Nat) (s : St) : Cont fun e => rangeA e ro f params assign body ts ds s := by
  unfold rangeA
  split
  · rename_i g first captured
    split
    · exact Cont.const _
    · rename_i l ds' s2 _
      refine (Cont.bind (g := fun y _ => match y.2.get l with
        | some (.loop .busy _ _ _ _ _ _) => none
        | some (.loop _ pend ts2 ps2 a2 b2 d2) => some (pend, ts, ds', y.2.put l (.loop .exhausted pend ts2 ps2 a2 b2 d2))
        | _ => none) (Cont.call g (first ++ [.yld l] ++ captured) s2) (fun _ => Cont.const _)).of_eq ?_
      intro e
      cases e.call g (first ++ [.yld l] ++ captured) s2 <;> rfl
  · exact Cont.const _

theorem cont_exStep (ro : Option Nat) (c : PC) (ts : Tr AV) (ds : List Nat) (s : St) : Cont fun e => exStep e ro c ts ds s := by
  unfold exStep
  cases c with
  | skip => exact Cont.const _
  | region ops =>
    refine (Cont.bind (g := fun y _ => some (AExit.normal, y.1, ds, y.2)) (cont_runOps ops ts s) (fun _ => Cont.const _)).of_eq ?_
    intro e
    dsimp only
    cases runOps e ops ts s <;> rfl
  | drawn ops looks =>
    refine (Cont.bind (g := fun y _ => if looksOk ops y.1 y.2.2.reverse looks then some (AExit.normal, y.1, ds, y.2.1) else none) (cont_runSnaps ops ts s []) (fun _ => Cont.const _)).of_eq ?_
    intro e
    dsimp only
    cases runSnaps e ops ts s [] <;> rfl
  | seq a b =>
    refine (Cont.bind (g := fun y e => match y with
      | (.normal, ts', ds', s') => e.ex ro b ts' ds' s'
      | r => some r) (Cont.ex ro a ts ds s) ?_).of_eq ?_
    · rintro ⟨x, t, d, s'⟩
      cases x with
      | normal => exact Cont.ex _ _ _ _ _
      | _ => exact Cont.const _
    · intro e
      dsimp only
      cases e.ex ro a ts ds s with
      | none => rfl
      | some y => obtain ⟨x, t, d, s'⟩ := y; cases x <;> rfl
  | cond x a b =>
    dsimp only
    split
    · exact Cont.ex _ _ _ _ _
    · exact Cont.ex _ _ _ _ _
    · exact Cont.const _
  | block id a =>
    refine (Cont.bind (g := fun y _ => match y with
      | (.exit id', ts', ds', s') => some (if id' = id then .normal else .exit id', ts', ds', s')
      | r => some r) (Cont.ex ro a ts ds s) (fun _ => Cont.const _)).of_eq ?_
    intro e
    dsimp only
    cases e.ex ro a ts ds s with
    | none => rfl
    | some y => obtain ⟨x, t, d, s'⟩ := y; cases x <;> rfl
  | loop a =>
    refine (Cont.bind (g := fun y e => match y with
      | (.normal, ts', ds', s') => e.ex ro (.loop a) ts' ds' s'
      | r => some r) (Cont.ex ro a ts ds s) ?_).of_eq ?_
    · rintro ⟨x, t, d, s'⟩
      cases x with
      | normal => exact Cont.ex _ _ _ _ _
      | _ => exact Cont.const _
    · intro e
      dsimp only
      cases e.ex ro a ts ds s with
      | none => rfl
      | some y => obtain ⟨x, t, d, s'⟩ := y; cases x <;> rfl
  | rangeF f params assign body =>
    dsimp only
    split
    · exact cont_rangeA _ _ _ _ _ _ _ _
    · exact Cont.const _
  | exit id => exact Cont.const _
  | ret => exact Cont.const _

theorem cont_callStep (FT : Fns) (SM : Sums) (f : Nat) (args : List AV) (s : St) : Cont fun e => callStep FT SM e f args s := by
  unfold callStep
  split
  · exact Cont.const _
  · split
    · exact Cont.const _
    · rename_i fd _
      split
      · refine (Cont.bind (g := fun y _ => finish fd (some y)) (Cont.ex none fd.body (initT 0 args .lf) [] s) (fun _ => Cont.const _)).of_eq ?_
        intro e
        cases e.ex none fd.body (initT 0 args .lf) [] s <;> rfl
      · exact Cont.const _

theorem eng_up_le (FT : Fns) (SM : Sums) : ∀ n, (eng FT SM n).le (eng FT SM (n + 1))
  | 0 => ⟨fun _ _ _ _ h => (by cases h), fun _ _ _ _ _ _ h => (by cases h)⟩
  | n + 1 => ⟨fun f a s => (cont_callStep FT SM f a s).mono _ _ (eng_up_le FT SM n), fun ro c ts ds s => (cont_exStep ro c ts ds s).mono _ _ (eng_up_le FT SM n)⟩

open Classical in
/-- What some answer, if one does. -/
def some1 {α : Type} (a : Nat → Option α) : Option α := if h : ∃ r n, a n = some r then some h.choose else none

theorem some1_of {α : Type} {a : Nat → Option α} (up : ∀ n m, n ≤ m → OLe (a n) (a m)) {n : Nat} {r : α} (h : a n = some r) : some1 a = some r := by
  have hx : ∃ r n, a n = some r := ⟨r, n, h⟩
  unfold some1
  rw [dif_pos hx]
  obtain ⟨m, hm⟩ := hx.choose_spec
  have h1 := up _ _ (Nat.le_max_left n m) r h
  have h2 := up _ _ (Nat.le_max_right n m) _ hm
  rw [h1] at h2; exact h2.symm

theorem of_some1 {α : Type} {a : Nat → Option α} {r : α} (h : some1 a = some r) : ∃ n, a n = some r := by
  unfold some1 at h
  split at h
  · rename_i hx; cases h; exact hx.choose_spec
  · cases h

/-- The machine, with as much at hand as it needs. -/
def lim (FT : Fns) (SM : Sums) : Eng where
  call f a s := some1 fun n => (eng FT SM n).call f a s
  ex ro c ts ds s := some1 fun n => (eng FT SM n).ex ro c ts ds s

theorem eng_le (FT : Fns) (SM : Sums) {n m : Nat} (k : n ≤ m) : (eng FT SM n).le (eng FT SM m) := by
  induction m with
  | zero => cases Nat.le_zero.1 k; exact Eng.le_refl _
  | succ m ih =>
    by_cases e : n = m + 1
    · subst e; exact Eng.le_refl _
    · exact Eng.le_trans (ih (by omega)) (eng_up_le FT SM m)

theorem sup_lim (FT : Fns) (SM : Sums) : Sup (eng FT SM) (lim FT SM) where
  up := eng_up_le FT SM
  le _ := ⟨fun f a s _ h => some1_of (fun _ _ k => (eng_le FT SM k).call f a s) h, fun ro c ts ds s _ h => some1_of (fun _ _ k => (eng_le FT SM k).ex ro c ts ds s) h⟩
  call _ _ _ _ h := of_some1 h
  ex _ _ _ _ _ _ h := of_some1 h

theorem opt_ext {α : Type} {a b : Option α} (h : OLe a b) (k : OLe b a) : a = b := by
  cases a with
  | some x => exact (h x rfl).symm
  | none => cases b with
    | none => rfl
    | some y => exact k y rfl

/-- The machine answers step by step. -/
theorem lim_call (FT : Fns) (SM : Sums) (f : Nat) (a : List AV) (s : St) : (lim FT SM).call f a s = callStep FT SM (lim FT SM) f a s := by
  refine opt_ext (fun r h => ?_) (fun r h => ?_)
  · obtain ⟨n, hn⟩ := (sup_lim FT SM).call f a s r h
    cases n with
    | zero => cases hn
    | succ n => exact (cont_callStep FT SM f a s).mono _ _ ((sup_lim FT SM).le n) r hn
  · obtain ⟨n, hn⟩ := (cont_callStep FT SM f a s).fin _ _ (sup_lim FT SM) r h
    exact ((sup_lim FT SM).le (n + 1)).call f a s r hn

theorem lim_ex (FT : Fns) (SM : Sums) (ro : Option Nat) (c : PC) (ts : Tr AV) (ds : List Nat) (s : St) : (lim FT SM).ex ro c ts ds s = exStep (lim FT SM) ro c ts ds s := by
  refine opt_ext (fun r h => ?_) (fun r h => ?_)
  · obtain ⟨n, hn⟩ := (sup_lim FT SM).ex ro c ts ds s r h
    cases n with
    | zero => cases hn
    | succ n => exact (cont_exStep ro c ts ds s).mono _ _ ((sup_lim FT SM).le n) r hn
  · obtain ⟨n, hn⟩ := (cont_exStep ro c ts ds s).fin _ _ (sup_lim FT SM) r h
    exact ((sup_lim FT SM).le (n + 1)).ex ro c ts ds s r hn

end
end Go.Proofs.Yteffppdkofdmdaa.D
