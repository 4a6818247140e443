/- What a run of the abstract machine comes to, step by step: rules for runs with unknown values. Plain laws; no program. -/
import Derived.Test.YteffppdkofdmdaaDLim
namespace Go.Proofs.Yteffppdkofdmdaa.D
noncomputable section

/-- A machine: its functions, and what is known of some. -/
structure Mach where
  FT : Fns
  SM : Sums

/-- What is around a piece of code. -/
inductive Fk where
  | sq (b : PC)
  | bl (id : Nat)
  | lp (a : PC)

abbrev Post := AExit → Tr AV → List Nat → St → Prop

variable (M : Mach) (ro : Option Nat)

abbrev Mach.L : Eng := lim M.FT M.SM

def after : List Fk → AExit → Tr AV → List Nat → St → Res
  | [], x, ts, ds, s => some (x, ts, ds, s)
  | .sq b :: k, .normal, ts, ds, s => match M.L.ex ro b ts ds s with
    | some (x, ts, ds, s) => after k x ts ds s
    | none => none
  | .lp a :: k, .normal, ts, ds, s => match M.L.ex ro (.loop a) ts ds s with
    | some (x, ts, ds, s) => after k x ts ds s
    | none => none
  | .bl id :: k, .exit id', ts, ds, s => after k (if id' = id then .normal else .exit id') ts ds s
  | _ :: k, x, ts, ds, s => after k x ts ds s

def Wr (k : List Fk) (x : AExit) (ts : Tr AV) (ds : List Nat) (s : St) (Q : Post) : Prop :=
  ∃ x' ts' ds' s', after M ro k x ts ds s = some (x', ts', ds', s') ∧ Q x' ts' ds' s'
def Wk (k : List Fk) (c : PC) (ts : Tr AV) (ds : List Nat) (s : St) (Q : Post) : Prop :=
  ∃ x ts' ds' s', M.L.ex ro c ts ds s = some (x, ts', ds', s') ∧ Wr M ro k x ts' ds' s' Q

/-- What a region whose order is open keeps beside. -/
abbrev Dr := Option (List PO × List Look × List St)
def Dr.push : Dr → St → Dr
  | none, _ => none
  | some (o, l, a), s => some (o, l, s :: a)
def Dr.ok : Dr → Tr AV → St → Bool
  | none, _, _ => true
  | some (o, l, a), ts, s => looksOk o ts (s :: a).reverse l

def Wo (k : List Fk) (dr : Dr) (ops : List PO) (ts : Tr AV) (ds : List Nat) (s : St) (Q : Post) : Prop :=
  match dr with
  | none => ∃ ts' s', runOps M.L ops ts s = some (ts', s') ∧ Wr M ro k .normal ts' ds s' Q
  | some (o, l, acc) => ∃ ts' s' sn, runSnaps M.L ops ts s acc = some (ts', s', sn) ∧ looksOk o ts' sn.reverse l = true ∧ Wr M ro k .normal ts' ds s' Q
def Wx (r : Option (AV × St)) (d : Option Nat) (k : List Fk) (dr : Dr) (ops : List PO) (ts : Tr AV) (ds : List Nat) (Q : Post) : Prop :=
  ∃ v s', r = some (v, s') ∧ Wo M ro k dr ops (putT d v ts) ds s' Q
def Wg (g : Option AV) (want : Bool) (d : Option Nat) (p : POp) (k : List Fk) (dr : Dr) (ops : List PO) (ts : Tr AV) (ds : List Nat) (s : St) (Q : Post) : Prop :=
  match g with
  | some (.bool x) => match x == want with
    | true => Wo M ro k dr (⟨d, p, none⟩ :: ops) ts ds s Q
    | false => Wo M ro k (dr.push s) ops (putT d undefA ts) ds s Q
  | some (.tup []) => Wo M ro k (dr.push s) ops (putT d undefA ts) ds s Q
  | _ => False
def Wc (f : Option AV) (l : Option (List AV)) (d : Option Nat) (k : List Fk) (dr : Dr) (ops : List PO) (ts : Tr AV) (ds : List Nat) (s : St) (Q : Post) : Prop :=
  ∃ fv as, f = some fv ∧ l = some as ∧ Wx M ro (callV M.L fv as s) d k dr ops ts ds Q
def Wl (f : Nat) (l : List AV) (d : Option Nat) (k : List Fk) (dr : Dr) (ops : List PO) (ts : Tr AV) (ds : List Nat) (s : St) (Q : Post) : Prop :=
  Wx M ro (M.L.call f l s) d k dr ops ts ds Q
def Wi (c : Option AV) (k : List Fk) (a b : PC) (ts : Tr AV) (ds : List Nat) (s : St) (Q : Post) : Prop :=
  ∃ v, c = some (.bool v) ∧ (v = true → Wk M ro k a ts ds s Q) ∧ (v = false → Wk M ro k b ts ds s Q)

def Wf (f : Nat) (l : List AV) (s : St) (P : AV → St → Prop) : Prop := ∃ v s', M.L.call f l s = some (v, s') ∧ P v s'
def Wy (l : Option (List AV)) (s : St) (P : AV → St → Prop) : Prop := ∃ vs, l = some vs ∧ P (oneA vs) s
def Fin (rs : List PRes) (P : AV → St → Prop) : Post := fun x ts ds s => (∀ id, x ≠ .exit id) ∧ ∃ s', takeAll ds s = some s' ∧ Wy (ressA ts s' rs) s' P

variable {M} {ro}
variable {k : List Fk} {dr : Dr} {ops : List PO} {ts : Tr AV} {ds : List Nat} {s : St} {Q : Post} {d : Option Nat} {p : POp} {P : AV → St → Prop}

@[congr] theorem Wk_congr {c : PC} {ts' : Tr AV} {s' : St} (h : ts = ts') (h' : s = s') : Wk M ro k c ts ds s Q = Wk M ro k c ts' ds s' Q := by rw [h, h']
@[congr] theorem Wr_congr {x x' : AExit} {ts' : Tr AV} {s' : St} (h0 : x = x') (h : ts = ts') (h' : s = s') : Wr M ro k x ts ds s Q = Wr M ro k x' ts' ds s' Q := by rw [h0, h, h']
@[congr] theorem Wo_congr {ts' : Tr AV} {s' : St} {dr' : Dr} (h0 : dr = dr') (h : ts = ts') (h' : s = s') : Wo M ro k dr ops ts ds s Q = Wo M ro k dr' ops ts' ds s' Q := by rw [h0, h, h']
@[congr] theorem Wx_congr {r r' : Option (AV × St)} (h : r = r') : Wx M ro r d k dr ops ts ds Q = Wx M ro r' d k dr ops ts ds Q := by rw [h]
@[congr] theorem Wg_congr {g g' : Option AV} {w : Bool} (h : g = g') : Wg M ro g w d p k dr ops ts ds s Q = Wg M ro g' w d p k dr ops ts ds s Q := by rw [h]
@[congr] theorem Wc_congr {f f' : Option AV} {l l' : Option (List AV)} (h : f = f') (h' : l = l') : Wc M ro f l d k dr ops ts ds s Q = Wc M ro f' l' d k dr ops ts ds s Q := by rw [h, h']
@[congr] theorem Wl_congr {f : Nat} {l l' : List AV} {s' : St} (h : l = l') (h' : s = s') : Wl M ro f l d k dr ops ts ds s Q = Wl M ro f l' d k dr ops ts ds s' Q := by rw [h, h']
@[congr] theorem Wi_congr {c c' : Option AV} {a b : PC} (h : c = c') : Wi M ro c k a b ts ds s Q = Wi M ro c' k a b ts ds s Q := by rw [h]
@[congr] theorem Wy_congr {l l' : Option (List AV)} (h : l = l') : Wy l s P = Wy l' s P := by rw [h]

theorem ex_of {c : PC} {ts : Tr AV} {ds : List Nat} {s : St} {r : Res} (h : exStep M.L ro c ts ds s = r) : M.L.ex ro c ts ds s = r := by rw [lim_ex]; exact h

theorem Wr_nil {x : AExit} : Wr M ro [] x ts ds s Q = Q x ts ds s := by
  unfold Wr after
  apply propext
  constructor
  · rintro ⟨_, _, _, _, h, hq⟩; cases h; exact hq
  · intro h; exact ⟨_, _, _, _, rfl, h⟩

theorem Wk_after {c : PC} {K : List Fk} (e : after M ro K .normal ts ds s = (match M.L.ex ro c ts ds s with | some (x, ts, ds, s) => after M ro k x ts ds s | none => none)) : Wr M ro K .normal ts ds s Q = Wk M ro k c ts ds s Q := by
  unfold Wr Wk
  rw [e]
  apply propext
  cases M.L.ex ro c ts ds s with
  | none =>
    constructor
    · rintro ⟨_, _, _, _, h, _⟩; cases h
    · rintro ⟨_, _, _, _, h, _⟩; cases h
  | some y =>
    obtain ⟨x, t, d, s1⟩ := y
    constructor
    · rintro ⟨x', t', d', s', h, hq⟩; exact ⟨_, _, _, _, rfl, _, _, _, _, h, hq⟩
    · rintro ⟨_, _, _, _, h, h'⟩; cases h; exact h'

theorem Wr_sq {b : PC} : Wr M ro (.sq b :: k) .normal ts ds s Q = Wk M ro k b ts ds s Q := Wk_after rfl
theorem Wr_lp {a : PC} : Wr M ro (.lp a :: k) .normal ts ds s Q = Wk M ro k (.loop a) ts ds s Q := Wk_after rfl
theorem Wr_bl_exit {id id' : Nat} : Wr M ro (.bl id :: k) (.exit id') ts ds s Q = Wr M ro k (if id' = id then .normal else .exit id') ts ds s Q := rfl
theorem Wr_bl {id : Nat} : Wr M ro (.bl id :: k) .normal ts ds s Q = Wr M ro k .normal ts ds s Q := rfl
theorem Wr_bl_ret {id : Nat} : Wr M ro (.bl id :: k) .ret ts ds s Q = Wr M ro k .ret ts ds s Q := rfl
theorem Wr_sq_exit {b : PC} {id : Nat} : Wr M ro (.sq b :: k) (.exit id) ts ds s Q = Wr M ro k (.exit id) ts ds s Q := rfl
theorem Wr_sq_ret {b : PC} : Wr M ro (.sq b :: k) .ret ts ds s Q = Wr M ro k .ret ts ds s Q := rfl
theorem Wr_lp_exit {b : PC} {id : Nat} : Wr M ro (.lp b :: k) (.exit id) ts ds s Q = Wr M ro k (.exit id) ts ds s Q := rfl
theorem Wr_lp_ret {b : PC} : Wr M ro (.lp b :: k) .ret ts ds s Q = Wr M ro k .ret ts ds s Q := rfl

/-- A step of code is a step within what is around it. -/
theorem Wk_step {c c1 : PC} {f : Fk} (e : exStep M.L ro c ts ds s = (match M.L.ex ro c1 ts ds s with | some (x, ts, ds, s) => after M ro [f] x ts ds s | none => none))
    (hf : ∀ x t d' s' , after M ro (f :: k) x t d' s' = (match after M ro [f] x t d' s' with | some (x, ts, ds, s) => after M ro k x ts ds s | none => none)) : Wk M ro k c ts ds s Q = Wk M ro (f :: k) c1 ts ds s Q := by
  unfold Wk
  rw [lim_ex, e]
  apply propext
  cases M.L.ex ro c1 ts ds s with
  | none =>
    constructor
    · rintro ⟨_, _, _, _, h, _⟩; cases h
    · rintro ⟨_, _, _, _, h, _⟩; cases h
  | some y =>
    obtain ⟨x, t, d, s1⟩ := y
    simp only [Option.some.injEq, Prod.mk.injEq]
    constructor
    · rintro ⟨x', t', d', s', h, hq⟩
      refine ⟨x, t, d, s1, ⟨rfl, rfl, rfl, rfl⟩, ?_⟩
      unfold Wr at hq ⊢
      rw [hf, h]; exact hq
    · rintro ⟨_, _, _, _, ⟨rfl, rfl, rfl, rfl⟩, hq⟩
      unfold Wr at hq
      rw [hf] at hq
      cases ha : after M ro [f] x t d s1 with
      | none => rw [ha] at hq; obtain ⟨_, _, _, _, h, _⟩ := hq; cases h
      | some z =>
        obtain ⟨x', t', d', s'⟩ := z
        rw [ha] at hq
        exact ⟨_, _, _, _, rfl, hq⟩

theorem after_one (f : Fk) (k : List Fk) (x : AExit) (t : Tr AV) (d' : List Nat) (s' : St) : after M ro (f :: k) x t d' s' = (match after M ro [f] x t d' s' with | some (x, ts, ds, s) => after M ro k x ts ds s | none => none) := by
  cases f with
  | sq b =>
    cases x with
    | normal =>
      simp only [after]
      cases M.L.ex ro b t d' s' <;> rfl
    | exit id => simp [after]
    | ret => simp [after]
  | lp b =>
    cases x with
    | normal =>
      simp only [after]
      cases M.L.ex ro (.loop b) t d' s' <;> rfl
    | exit id => simp [after]
    | ret => simp [after]
  | bl id =>
    cases x with
    | normal => simp [after]
    | exit id' => simp [after]
    | ret => simp [after]

theorem Wk_seq {a b : PC} : Wk M ro k (.seq a b) ts ds s Q = Wk M ro (.sq b :: k) a ts ds s Q := by
  refine Wk_step ?_ (after_one _ _)
  simp only [exStep]
  cases M.L.ex ro a ts ds s with
  | none => rfl
  | some y =>
    obtain ⟨x, t, d, s1⟩ := y
    cases x with
    | normal =>
      simp only [after]
      cases M.L.ex ro b t d s1 <;> rfl
    | _ => rfl

theorem Wk_loop {a : PC} : Wk M ro k (.loop a) ts ds s Q = Wk M ro (.lp a :: k) a ts ds s Q := by
  refine Wk_step ?_ (after_one _ _)
  simp only [exStep]
  cases M.L.ex ro a ts ds s with
  | none => rfl
  | some y =>
    obtain ⟨x, t, d, s1⟩ := y
    cases x with
    | normal =>
      simp only [after]
      cases M.L.ex ro (.loop a) t d s1 <;> rfl
    | _ => rfl

theorem Wk_block {a : PC} {id : Nat} : Wk M ro k (.block id a) ts ds s Q = Wk M ro (.bl id :: k) a ts ds s Q := by
  refine Wk_step ?_ (after_one _ _)
  simp only [exStep]
  cases M.L.ex ro a ts ds s with
  | none => rfl
  | some y =>
    obtain ⟨x, t, d, s1⟩ := y
    cases x <;> rfl

theorem Wk_now {c : PC} {x : AExit} (e : exStep M.L ro c ts ds s = some (x, ts, ds, s)) : Wk M ro k c ts ds s Q = Wr M ro k x ts ds s Q := by
  unfold Wk
  rw [lim_ex, e]
  apply propext
  constructor
  · rintro ⟨_, _, _, _, h, hq⟩; cases h; exact hq
  · intro h; exact ⟨_, _, _, _, rfl, h⟩

theorem Wk_skip : Wk M ro k .skip ts ds s Q = Wr M ro k .normal ts ds s Q := Wk_now rfl
theorem Wk_exit {id : Nat} : Wk M ro k (.exit id) ts ds s Q = Wr M ro k (.exit id) ts ds s Q := Wk_now rfl
theorem Wk_ret : Wk M ro k .ret ts ds s Q = Wr M ro k .ret ts ds s Q := Wk_now rfl

theorem Wk_region : Wk M ro k (.region ops) ts ds s Q = Wo M ro k none ops ts ds s Q := by
  unfold Wk Wo
  rw [lim_ex]
  simp only [exStep]
  apply propext
  cases runOps M.L ops ts s with
  | none =>
    constructor
    · rintro ⟨_, _, _, _, h, _⟩; cases h
    · rintro ⟨_, _, h, _⟩; cases h
  | some y =>
    obtain ⟨t, s1⟩ := y
    constructor
    · rintro ⟨_, _, _, _, h, hq⟩; cases h; exact ⟨_, _, rfl, hq⟩
    · rintro ⟨_, _, h, hq⟩; cases h; exact ⟨_, _, _, _, rfl, hq⟩

theorem Wk_drawn {l : List Look} : Wk M ro k (.drawn ops l) ts ds s Q = Wo M ro k (some (ops, l, [])) ops ts ds s Q := by
  unfold Wk Wo
  rw [lim_ex]
  simp only [exStep]
  apply propext
  cases runSnaps M.L ops ts s [] with
  | none =>
    constructor
    · rintro ⟨_, _, _, _, h, _⟩; cases h
    · rintro ⟨_, _, _, h, _⟩; cases h
  | some y =>
    obtain ⟨t, s1, sn⟩ := y
    dsimp only
    cases hl : looksOk ops t sn.reverse l with
    | false =>
      constructor
      · rintro ⟨_, _, _, _, h, _⟩; simp at h
      · rintro ⟨_, _, _, h, h', _⟩; cases h; rw [hl] at h'; cases h'
    | true =>
      constructor
      · rintro ⟨_, _, _, _, h, hq⟩; simp only [if_true] at h; cases h; exact ⟨_, _, _, rfl, hl, hq⟩
      · rintro ⟨_, _, _, h, _, hq⟩; cases h; exact ⟨_, _, _, _, rfl, hq⟩

theorem runSnaps_ops (e : Eng) : ∀ (l : List PO) (ts : Tr AV) (s : St) (acc : List St), (runSnaps e l ts s acc).map (fun y => (y.1, y.2.1)) = runOps e l ts s
  | [], _, _, _ => rfl
  | p :: r, ts, s, acc => by
    simp only [runSnaps, runOps]
    cases opStep e p ts s with
    | none => rfl
    | some y => exact runSnaps_ops e r _ _ _

theorem Wk_drawnC {l : Look} {ls : List Look} : Wk M ro k (.drawn ops (l :: ls)) ts ds s Q = Wo M ro k (some (ops, l :: ls, [])) ops ts ds s Q := Wk_drawn

/-- Where nothing is to be looked at again, the order is all one. -/
theorem Wk_drawn0 : Wk M ro k (.drawn ops []) ts ds s Q = Wo M ro k none ops ts ds s Q := by
  rw [Wk_drawn]
  unfold Wo
  dsimp only
  rw [← runSnaps_ops M.L ops ts s []]
  apply propext
  cases runSnaps M.L ops ts s [] with
  | none =>
    constructor
    · rintro ⟨_, _, _, h, _⟩; cases h
    · rintro ⟨_, _, h, _⟩; cases h
  | some y =>
    obtain ⟨t, s1, sn⟩ := y
    constructor
    · rintro ⟨_, _, _, h, _, hq⟩; cases h; exact ⟨_, _, rfl, hq⟩
    · rintro ⟨_, _, h, hq⟩; cases h; exact ⟨_, _, _, rfl, rfl, hq⟩

theorem Wk_cond {x : X} {a b : PC} : Wk M ro k (.cond x a b) ts ds s Q = Wi M ro (evOf ts x) k a b ts ds s Q := by
  unfold Wk Wi
  rw [lim_ex]
  simp only [exStep]
  apply propext
  cases he : evOf ts x with
  | none =>
    constructor
    · rintro ⟨_, _, _, _, h, _⟩; cases h
    · rintro ⟨_, h, _⟩; cases h
  | some v =>
    cases v with
    | bool v =>
      cases v with
      | true =>
        constructor
        · intro h; exact ⟨true, rfl, fun _ => h, fun h => by cases h⟩
        · rintro ⟨_, h, h1, _⟩; cases h; exact h1 rfl
      | false =>
        constructor
        · intro h; exact ⟨false, rfl, fun h => (by cases h), fun _ => h⟩
        · rintro ⟨_, h, _, h1⟩; cases h; exact h1 rfl
    | _ =>
      constructor
      · rintro ⟨_, _, _, _, h, _⟩; cases h
      · rintro ⟨_, h, _⟩; cases h

theorem Wi_t {a b : PC} : Wi M ro (some (.bool true)) k a b ts ds s Q = Wk M ro k a ts ds s Q := by
  apply propext
  constructor
  · rintro ⟨_, h, h1, _⟩; cases h; exact h1 rfl
  · intro h; exact ⟨true, rfl, fun _ => h, fun h => by cases h⟩
theorem Wi_f {a b : PC} : Wi M ro (some (.bool false)) k a b ts ds s Q = Wk M ro k b ts ds s Q := by
  apply propext
  constructor
  · rintro ⟨_, h, _, h1⟩; cases h; exact h1 rfl
  · intro h; exact ⟨false, rfl, fun h => (by cases h), fun _ => h⟩
theorem Wi_split {v : Bool} {a b : PC} (h1 : v = true → Wk M ro k a ts ds s Q) (h2 : v = false → Wk M ro k b ts ds s Q) : Wi M ro (some (.bool v)) k a b ts ds s Q := ⟨v, rfl, h1, h2⟩

theorem Wo_nil : Wo M ro k none [] ts ds s Q = Wr M ro k .normal ts ds s Q := by
  apply propext
  constructor
  · rintro ⟨_, _, h, hq⟩; cases h; exact hq
  · intro h; exact ⟨_, _, rfl, h⟩
theorem Wo_nil' {o : List PO} {l : List Look} {acc : List St} : Wo M ro k (some (o, l, acc)) [] ts ds s Q = (looksOk o ts (s :: acc).reverse l = true ∧ Wr M ro k .normal ts ds s Q) := by
  apply propext
  constructor
  · rintro ⟨_, _, _, h, hl, hq⟩; cases h; exact ⟨hl, hq⟩
  · rintro ⟨hl, h⟩; exact ⟨_, _, _, rfl, hl, h⟩

theorem Wo_cons {q : PO} : Wo M ro k dr (q :: ops) ts ds s Q = ∃ t s', opStep M.L q ts s = some (t, s') ∧ Wo M ro k (dr.push s) ops t ds s' Q := by
  cases dr with
  | none =>
    apply propext
    constructor
    · rintro ⟨t, s', h, hq⟩
      simp only [runOps] at h
      cases ho : opStep M.L q ts s with
      | none => rw [ho] at h; cases h
      | some y => rw [ho] at h; exact ⟨_, _, rfl, t, s', h, hq⟩
    · rintro ⟨t, s', h, t1, s1, h1, hq⟩
      refine ⟨t1, s1, ?_, hq⟩
      simp only [runOps, h, h1]
  | some y =>
    obtain ⟨o, l, acc⟩ := y
    apply propext
    constructor
    · rintro ⟨t, s', sn, h, hl, hq⟩
      simp only [runSnaps] at h
      cases ho : opStep M.L q ts s with
      | none => rw [ho] at h; cases h
      | some y => rw [ho] at h; exact ⟨_, _, rfl, t, s', sn, h, hl, hq⟩
    · rintro ⟨t, s', h, t1, s1, sn, h1, hl, hq⟩
      refine ⟨t1, s1, sn, ?_, hl, hq⟩
      simp only [runSnaps, h, h1]

def POp.isCall : POp → Bool
  | .call .. => true
  | _ => false

theorem Wo_any : Wo M ro k dr (⟨d, p, none⟩ :: ops) ts ds s Q = Wx M ro (opVal M.L p (evOf ts) s) d k (dr.push s) ops ts ds Q := by
  rw [Wo_cons]
  unfold Wx
  simp only [opStep, wantedA]
  apply propext
  cases opVal M.L p (evOf ts) s with
  | none =>
    constructor
    · rintro ⟨_, _, h, _⟩; cases h
    · rintro ⟨_, _, h, _⟩; cases h
  | some y =>
    constructor
    · rintro ⟨_, _, h, hq⟩; cases h; exact ⟨_, _, rfl, hq⟩
    · rintro ⟨_, _, h, hq⟩; cases h; exact ⟨_, _, rfl, hq⟩

theorem Wo_op (h : p.isCall = false) : Wo M ro k dr (⟨d, p, none⟩ :: ops) ts ds s Q = Wx M ro (xop p (evOf ts) s) d k (dr.push s) ops ts ds Q := by
  rw [Wo_any]
  cases p with
  | call => cases h
  | _ => rfl

theorem Wo_move {x : X} : Wo M ro k dr (⟨d, .move x, none⟩ :: ops) ts ds s Q = Wx M ro (xop (.move x) (evOf ts) s) d k (dr.push s) ops ts ds Q := Wo_op rfl
theorem Wo_pick {c a b : X} : Wo M ro k dr (⟨d, .pick c a b, none⟩ :: ops) ts ds s Q = Wx M ro (xop (.pick c a b) (evOf ts) s) d k (dr.push s) ops ts ds Q := Wo_op rfl
theorem Wo_alloc {z : List AV} : Wo M ro k dr (⟨d, .alloc z, none⟩ :: ops) ts ds s Q = Wx M ro (xop (.alloc z) (evOf ts) s) d k (dr.push s) ops ts ds Q := Wo_op rfl
theorem Wo_box {x : X} : Wo M ro k dr (⟨d, .box x, none⟩ :: ops) ts ds s Q = Wx M ro (xop (.box x) (evOf ts) s) d k (dr.push s) ops ts ds Q := Wo_op rfl
theorem Wo_build {z : List AV} {ps : List (Nat × Nat × X)} : Wo M ro k dr (⟨d, .build z ps, none⟩ :: ops) ts ds s Q = Wx M ro (xop (.build z ps) (evOf ts) s) d k (dr.push s) ops ts ds Q := Wo_op rfl
theorem Wo_buildSlice {z : List AV} {n : Nat} {ps : List (Nat × Nat × X)} {e : Nat} : Wo M ro k dr (⟨d, .buildSlice z n ps e, none⟩ :: ops) ts ds s Q = Wx M ro (xop (.buildSlice z n ps e) (evOf ts) s) d k (dr.push s) ops ts ds Q := Wo_op rfl
theorem Wo_load1 {a : X} : Wo M ro k dr (⟨d, .load1 a, none⟩ :: ops) ts ds s Q = Wx M ro (xop (.load1 a) (evOf ts) s) d k (dr.push s) ops ts ds Q := Wo_op rfl
theorem Wo_loadN {n : Nat} {a : X} : Wo M ro k dr (⟨d, .loadN n a, none⟩ :: ops) ts ds s Q = Wx M ro (xop (.loadN n a) (evOf ts) s) d k (dr.push s) ops ts ds Q := Wo_op rfl
theorem Wo_store {n : Nat} {a v : X} : Wo M ro k dr (⟨d, .store n a v, none⟩ :: ops) ts ds s Q = Wx M ro (xop (.store n a v) (evOf ts) s) d k (dr.push s) ops ts ds Q := Wo_op rfl
theorem Wo_nilCheck {x : X} : Wo M ro k dr (⟨d, .nilCheck x, none⟩ :: ops) ts ds s Q = Wx M ro (xop (.nilCheck x) (evOf ts) s) d k (dr.push s) ops ts ds Q := Wo_op rfl
theorem Wo_bin {o : BinOp} {e : EqK} {x y : X} : Wo M ro k dr (⟨d, .bin o e x y, none⟩ :: ops) ts ds s Q = Wx M ro (xop (.bin o e x y) (evOf ts) s) d k (dr.push s) ops ts ds Q := Wo_op rfl
theorem Wo_un {o : UnOp} {x : X} : Wo M ro k dr (⟨d, .un o x, none⟩ :: ops) ts ds s Q = Wx M ro (xop (.un o x) (evOf ts) s) d k (dr.push s) ops ts ds Q := Wo_op rfl
theorem Wo_convInt {i : IntKind} {x : X} : Wo M ro k dr (⟨d, .convInt i x, none⟩ :: ops) ts ds s Q = Wx M ro (xop (.convInt i x) (evOf ts) s) d k (dr.push s) ops ts ds Q := Wo_op rfl
theorem Wo_convSame {x : X} : Wo M ro k dr (⟨d, .convSame x, none⟩ :: ops) ts ds s Q = Wx M ro (xop (.convSame x) (evOf ts) s) d k (dr.push s) ops ts ds Q := Wo_op rfl
theorem Wo_convStr {e : Nat} {x : X} : Wo M ro k dr (⟨d, .convStr e x, none⟩ :: ops) ts ds s Q = Wx M ro (xop (.convStr e x) (evOf ts) s) d k (dr.push s) ops ts ds Q := Wo_op rfl
theorem Wo_convBytes {x : X} : Wo M ro k dr (⟨d, .convBytes x, none⟩ :: ops) ts ds s Q = Wx M ro (xop (.convBytes x) (evOf ts) s) d k (dr.push s) ops ts ds Q := Wo_op rfl
theorem Wo_mkIface {i : TypeId} {x : X} : Wo M ro k dr (⟨d, .mkIface i x, none⟩ :: ops) ts ds s Q = Wx M ro (xop (.mkIface i x) (evOf ts) s) d k (dr.push s) ops ts ds Q := Wo_op rfl
theorem Wo_mkFunc {f : Fn} {a c : List X} : Wo M ro k dr (⟨d, .mkFunc f a c, none⟩ :: ops) ts ds s Q = Wx M ro (xop (.mkFunc f a c) (evOf ts) s) d k (dr.push s) ops ts ds Q := Wo_op rfl
theorem Wo_mkMap  : Wo M ro k dr (⟨d, .mkMap, none⟩ :: ops) ts ds s Q = Wx M ro (xop .mkMap (evOf ts) s) d k (dr.push s) ops ts ds Q := Wo_op rfl
theorem Wo_mkSlice {a b : Nat} {z : List AV} {l c : X} : Wo M ro k dr (⟨d, .mkSlice a b z l c, none⟩ :: ops) ts ds s Q = Wx M ro (xop (.mkSlice a b z l c) (evOf ts) s) d k (dr.push s) ops ts ds Q := Wo_op rfl
theorem Wo_sliceSl {e : Nat} {x : X} {lo hi mx : Option X} : Wo M ro k dr (⟨d, .sliceSl e x lo hi mx, none⟩ :: ops) ts ds s Q = Wx M ro (xop (.sliceSl e x lo hi mx) (evOf ts) s) d k (dr.push s) ops ts ds Q := Wo_op rfl
theorem Wo_sliceStr {x : X} {lo hi : Option X} : Wo M ro k dr (⟨d, .sliceStr x lo hi, none⟩ :: ops) ts ds s Q = Wx M ro (xop (.sliceStr x lo hi) (evOf ts) s) d k (dr.push s) ops ts ds Q := Wo_op rfl
theorem Wo_sliceArr {n e : Nat} {x : X} {lo hi mx : Option X} : Wo M ro k dr (⟨d, .sliceArr n e x lo hi mx, none⟩ :: ops) ts ds s Q = Wx M ro (xop (.sliceArr n e x lo hi mx) (evOf ts) s) d k (dr.push s) ops ts ds Q := Wo_op rfl
theorem Wo_fieldAddr {o : Nat} {x : X} : Wo M ro k dr (⟨d, .fieldAddr o x, none⟩ :: ops) ts ds s Q = Wx M ro (xop (.fieldAddr o x) (evOf ts) s) d k (dr.push s) ops ts ds Q := Wo_op rfl
theorem Wo_field {o : Nat} {n : Option Nat} {x : X} : Wo M ro k dr (⟨d, .field o n x, none⟩ :: ops) ts ds s Q = Wx M ro (xop (.field o n x) (evOf ts) s) d k (dr.push s) ops ts ds Q := Wo_op rfl
theorem Wo_idxArr {n e : Nat} {x i : X} : Wo M ro k dr (⟨d, .idxArr n e x i, none⟩ :: ops) ts ds s Q = Wx M ro (xop (.idxArr n e x i) (evOf ts) s) d k (dr.push s) ops ts ds Q := Wo_op rfl
theorem Wo_idxSl {e : Nat} {x i : X} : Wo M ro k dr (⟨d, .idxSl e x i, none⟩ :: ops) ts ds s Q = Wx M ro (xop (.idxSl e x i) (evOf ts) s) d k (dr.push s) ops ts ds Q := Wo_op rfl
theorem Wo_idxAgg {n e : Nat} {g : Bool} {x i : X} : Wo M ro k dr (⟨d, .idxAgg n e g x i, none⟩ :: ops) ts ds s Q = Wx M ro (xop (.idxAgg n e g x i) (evOf ts) s) d k (dr.push s) ops ts ds Q := Wo_op rfl
theorem Wo_idxStr {x i : X} : Wo M ro k dr (⟨d, .idxStr x i, none⟩ :: ops) ts ds s Q = Wx M ro (xop (.idxStr x i) (evOf ts) s) d k (dr.push s) ops ts ds Q := Wo_op rfl
theorem Wo_lookup {z : AV} {m x : X} {o : Bool} : Wo M ro k dr (⟨d, .lookup z m x o, none⟩ :: ops) ts ds s Q = Wx M ro (xop (.lookup z m x o) (evOf ts) s) d k (dr.push s) ops ts ds Q := Wo_op rfl
theorem Wo_mapUpd {m x v : X} : Wo M ro k dr (⟨d, .mapUpd m x v, none⟩ :: ops) ts ds s Q = Wx M ro (xop (.mapUpd m x v) (evOf ts) s) d k (dr.push s) ops ts ds Q := Wo_op rfl
theorem Wo_extract {x : X} {i : Nat} : Wo M ro k dr (⟨d, .extract x i, none⟩ :: ops) ts ds s Q = Wx M ro (xop (.extract x i) (evOf ts) s) d k (dr.push s) ops ts ds Q := Wo_op rfl
theorem Wo_append {a b : Nat} {z : List AV} {x y : X} : Wo M ro k dr (⟨d, .append a b z x y, none⟩ :: ops) ts ds s Q = Wx M ro (xop (.append a b z x y) (evOf ts) s) d k (dr.push s) ops ts ds Q := Wo_op rfl
theorem Wo_appendN {a b : Nat} {z : List AV} {x y : X} : Wo M ro k dr (⟨d, .appendN a b z x y, none⟩ :: ops) ts ds s Q = Wx M ro (xop (.appendN a b z x y) (evOf ts) s) d k (dr.push s) ops ts ds Q := Wo_op rfl
theorem Wo_copy {e : Nat} {x y : X} : Wo M ro k dr (⟨d, .copy e x y, none⟩ :: ops) ts ds s Q = Wx M ro (xop (.copy e x y) (evOf ts) s) d k (dr.push s) ops ts ds Q := Wo_op rfl
theorem Wo_len {n : Nat} {x : X} : Wo M ro k dr (⟨d, .len n x, none⟩ :: ops) ts ds s Q = Wx M ro (xop (.len n x) (evOf ts) s) d k (dr.push s) ops ts ds Q := Wo_op rfl
theorem Wo_lenArr {n : Nat} : Wo M ro k dr (⟨d, .lenArr n, none⟩ :: ops) ts ds s Q = Wx M ro (xop (.lenArr n) (evOf ts) s) d k (dr.push s) ops ts ds Q := Wo_op rfl
theorem Wo_cap {x : X} : Wo M ro k dr (⟨d, .cap x, none⟩ :: ops) ts ds s Q = Wx M ro (xop (.cap x) (evOf ts) s) d k (dr.push s) ops ts ds Q := Wo_op rfl
theorem Wo_minmax {b : Bool} {l : List X} : Wo M ro k dr (⟨d, .minmax b l, none⟩ :: ops) ts ds s Q = Wx M ro (xop (.minmax b l) (evOf ts) s) d k (dr.push s) ops ts ds Q := Wo_op rfl
theorem Wo_clear {z : List AV} {x : X} : Wo M ro k dr (⟨d, .clear z x, none⟩ :: ops) ts ds s Q = Wx M ro (xop (.clear z x) (evOf ts) s) d k (dr.push s) ops ts ds Q := Wo_op rfl
theorem Wo_clearMap {x : X} : Wo M ro k dr (⟨d, .clearMap x, none⟩ :: ops) ts ds s Q = Wx M ro (xop (.clearMap x) (evOf ts) s) d k (dr.push s) ops ts ds Q := Wo_op rfl
theorem Wo_delete {m x : X} : Wo M ro k dr (⟨d, .delete m x, none⟩ :: ops) ts ds s Q = Wx M ro (xop (.delete m x) (evOf ts) s) d k (dr.push s) ops ts ds Q := Wo_op rfl

theorem Wo_call {f : X} {as : List X} : Wo M ro k dr (⟨d, .call f as, none⟩ :: ops) ts ds s Q = Wc M ro (evOf ts f) (evs (evOf ts) as) d k (dr.push s) ops ts ds s Q := by
  rw [Wo_any]
  unfold Wc
  simp only [opVal]
  apply propext
  cases evOf ts f with
  | none =>
    constructor
    · rintro ⟨_, _, h, _⟩; cases h
    · rintro ⟨_, _, h, _⟩; cases h
  | some fv =>
    cases evs (evOf ts) as with
    | none =>
      constructor
      · rintro ⟨_, _, h, _⟩; cases h
      · rintro ⟨_, _, _, h, _⟩; cases h
    | some l =>
      constructor
      · intro h; exact ⟨_, _, rfl, rfl, h⟩
      · rintro ⟨_, _, h, h', hq⟩; cases h; cases h'; exact hq

theorem Wo_guard {t : Nat} {b : Bool} : Wo M ro k dr (⟨d, p, some (t, b)⟩ :: ops) ts ds s Q = Wg M ro (ts.get t) b d p k dr ops ts ds s Q := by
  rw [Wo_cons]
  unfold Wg
  simp only [opStep, wantedA]
  cases hg : ts.get t with
  | none => simp
  | some v =>
    cases v with
    | bool x =>
      dsimp only
      cases hx : x == b with
      | true =>
        dsimp only
        rw [Wo_any]
        unfold Wx
        apply propext
        cases opVal M.L p (evOf ts) s with
        | none =>
          constructor
          · rintro ⟨_, _, h, _⟩; cases h
          · rintro ⟨_, _, h, _⟩; cases h
        | some y =>
          constructor
          · rintro ⟨_, _, h, hq⟩; cases h; exact ⟨_, _, rfl, hq⟩
          · rintro ⟨_, _, h, hq⟩; cases h; exact ⟨_, _, rfl, hq⟩
      | false =>
        dsimp only
        apply propext
        constructor
        · rintro ⟨_, _, h, hq⟩; cases h; exact hq
        · intro h; exact ⟨_, _, rfl, h⟩
    | tup l =>
      cases l with
      | nil =>
        dsimp only
        apply propext
        constructor
        · rintro ⟨_, _, h, hq⟩; cases h; exact hq
        · intro h; exact ⟨_, _, rfl, h⟩
      | cons => simp
    | _ => simp

theorem Wx_some {v : AV} {s' : St} : Wx M ro (some (v, s')) d k dr ops ts ds Q = Wo M ro k dr ops (putT d v ts) ds s' Q := by
  apply propext
  constructor
  · rintro ⟨_, _, h, hq⟩; cases h; exact hq
  · intro h; exact ⟨_, _, rfl, h⟩
theorem Wg_tt : Wg M ro (some (.bool true)) true d p k dr ops ts ds s Q = Wo M ro k dr (⟨d, p, none⟩ :: ops) ts ds s Q := rfl
theorem Wg_ff : Wg M ro (some (.bool false)) false d p k dr ops ts ds s Q = Wo M ro k dr (⟨d, p, none⟩ :: ops) ts ds s Q := rfl
theorem Wg_tf : Wg M ro (some (.bool true)) false d p k dr ops ts ds s Q = Wo M ro k (dr.push s) ops (putT d undefA ts) ds s Q := rfl
theorem Wg_ft : Wg M ro (some (.bool false)) true d p k dr ops ts ds s Q = Wo M ro k (dr.push s) ops (putT d undefA ts) ds s Q := rfl
theorem Wg_undef {b : Bool} : Wg M ro (some undefA) b d p k dr ops ts ds s Q = Wo M ro k (dr.push s) ops (putT d undefA ts) ds s Q := rfl
theorem Wg_split {c b : Bool} (h1 : c = true → Wg M ro (some (.bool true)) b d p k dr ops ts ds s Q) (h2 : c = false → Wg M ro (some (.bool false)) b d p k dr ops ts ds s Q) : Wg M ro (some (.bool c)) b d p k dr ops ts ds s Q := by
  cases c with
  | true => exact h1 rfl
  | false => exact h2 rfl
theorem Wc_fn {g : Nat} {a c l : List AV} : Wc M ro (some (.fn (.func g) a c)) (some l) d k dr ops ts ds s Q = Wl M ro g (a ++ l ++ c) d k dr ops ts ds s Q := by
  apply propext
  constructor
  · rintro ⟨_, _, h, h', hq⟩; cases h; cases h'; exact hq
  · intro h; exact ⟨_, _, rfl, rfl, h⟩

theorem Wl_of {f : Nat} {l : List AV} (h : Wf M f l s P) (hq : ∀ v s', P v s' → Wo M ro k dr ops (putT d v ts) ds s' Q) : Wl M ro f l d k dr ops ts ds s Q := by
  obtain ⟨v, s', h1, h2⟩ := h
  exact ⟨v, s', h1, hq v s' h2⟩
theorem Wl_eq {f : Nat} {l : List AV} {v : AV} {s' : St} (h : M.L.call f l s = some (v, s')) : Wl M ro f l d k dr ops ts ds s Q = Wo M ro k dr ops (putT d v ts) ds s' Q := by
  unfold Wl
  rw [h, Wx_some]

theorem Wf.mono {f : Nat} {l : List AV} {P' : AV → St → Prop} (h : Wf M f l s P) (hp : ∀ v s', P v s' → P' v s') : Wf M f l s P' := by
  obtain ⟨v, s', h1, h2⟩ := h
  exact ⟨v, s', h1, hp v s' h2⟩

theorem Wf_enter {f : Nat} {l : List AV} {fd : FD} (hf : M.FT f = some fd) (hs : M.SM f = none) (hn : Nat.ble l.length fd.ntmps = true) (h : Wk M none [] fd.body (initT 0 l .lf) [] s (Fin fd.results P)) : Wf M f l s P := by
  obtain ⟨x, t, d, s1, h1, h2⟩ := h
  rw [Wr_nil] at h2
  obtain ⟨hx, s2, ht, vs, hr, hp⟩ := h2
  refine ⟨oneA vs, s2, ?_, hp⟩
  rw [lim_call]
  unfold callStep
  rw [hs, hf]
  dsimp only
  rw [if_pos hn, h1]
  unfold finish
  cases x with
  | exit id => exact (hx id rfl).elim
  | _ => simp only [ht, hr]

theorem Wr_fin {rs : List PRes} : Wr M ro [] .ret ts [] s (Fin rs P) = Wy (ressA ts s rs) s P := by
  rw [Wr_nil]
  apply propext
  constructor
  · rintro ⟨_, _, h, hq⟩; cases h; exact hq
  · intro h; exact ⟨fun _ h => (by cases h), _, rfl, h⟩
theorem Wr_fin' {rs : List PRes} : Wr M ro [] .normal ts [] s (Fin rs P) = Wy (ressA ts s rs) s P := by
  rw [Wr_nil]
  apply propext
  constructor
  · rintro ⟨_, _, h, hq⟩; cases h; exact hq
  · intro h; exact ⟨fun _ h => (by cases h), _, rfl, h⟩
theorem Wy_some {l : List AV} : Wy (some l) s P = P (oneA l) s := by
  apply propext
  constructor
  · rintro ⟨_, h, hq⟩; cases h; exact hq
  · intro h; exact ⟨_, rfl, h⟩

/-- A loop, by what holds at its head. -/
theorem loop_ind {a : PC} (I : Nat → Tr AV → St → Prop) (step : ∀ n ts s, I n ts s → (∀ m ts' s', m < n → I m ts' s' → Wk M ro k (.loop a) ts' ds s' Q) → Wk M ro (.lp a :: k) a ts ds s Q) : ∀ {n ts s}, I n ts s → Wk M ro k (.loop a) ts ds s Q := by
  intro n
  induction n using Nat.strongRecOn with
  | ind n ih =>
    intro ts s h
    rw [Wk_loop]
    exact step n ts s h fun m ts' s' hm h' => ih m hm h'
end
end Go.Proofs.Yteffppdkofdmdaa.D
