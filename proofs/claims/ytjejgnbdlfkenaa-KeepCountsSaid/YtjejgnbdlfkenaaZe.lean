/- What a run of the abstract machine comes to, step by step: rules for runs with unknown values. Plain laws; no program.
The rules by which a run with unknown values is carried out, as one set.
The machine of this seat, without what is known of some functions. Printed by a program.
Labels: which of two is lower.
The memory that a law finds, as the abstract machine's; and what its arguments hold, by their types. Plain laws; no program.
A law's row, of a run of the abstract machine over what the law finds. Plain laws; no program.
Slices that came in: what is read of them. Plain laws; no program.
Loops over functions: rules for runs with unknown values. Plain laws; no program. -/
import Derived.Test.YtjejgnbdlfkenaaZd
import Derived.Attr
import Derived.KernelRfl
import GoSem.ClaimChange
import Derived.Carry
namespace Go.Proofs.Ytjejgnbdlfkenaa.D
noncomputable section

/-- A machine: its functions, and what is known of some. -/
structure Mach where
  FT : Fns
  SM : Sums

/-- What is around a piece of code. -/
inductive Fk where
  | sq (b : PC)
  | bl (id : Nat)
  | lp (a : PC)

abbrev Post := AExit → Tr AV → List Nat → St → Prop

variable (M : Mach) (ro : Option Nat)

abbrev Mach.L : Eng := lim M.FT M.SM

def after : List Fk → AExit → Tr AV → List Nat → St → Res
  | [], x, ts, ds, s => some (x, ts, ds, s)
  | .sq b :: k, .normal, ts, ds, s => match M.L.ex ro b ts ds s with
    | some (x, ts, ds, s) => after k x ts ds s
    | none => none
  | .lp a :: k, .normal, ts, ds, s => match M.L.ex ro (.loop a) ts ds s with
    | some (x, ts, ds, s) => after k x ts ds s
    | none => none
  | .bl id :: k, .exit id', ts, ds, s => after k (if id' = id then .normal else .exit id') ts ds s
  | _ :: k, x, ts, ds, s => after k x ts ds s

def Wr (k : List Fk) (x : AExit) (ts : Tr AV) (ds : List Nat) (s : St) (Q : Post) : Prop :=
  ∃ x' ts' ds' s', after M ro k x ts ds s = some (x', ts', ds', s') ∧ Q x' ts' ds' s'
def Wk (k : List Fk) (c : PC) (ts : Tr AV) (ds : List Nat) (s : St) (Q : Post) : Prop :=
  ∃ x ts' ds' s', M.L.ex ro c ts ds s = some (x, ts', ds', s') ∧ Wr M ro k x ts' ds' s' Q

/-- What a region whose order is open keeps beside. -/
abbrev Dr := Option (List PO × List Look × List St)
def Dr.push : Dr → St → Dr
  | none, _ => none
  | some (o, l, a), s => some (o, l, s :: a)
def Dr.ok : Dr → Tr AV → St → Bool
  | none, _, _ => true
  | some (o, l, a), ts, s => looksOk o ts (s :: a).reverse l

def Wo (k : List Fk) (dr : Dr) (ops : List PO) (ts : Tr AV) (ds : List Nat) (s : St) (Q : Post) : Prop :=
  match dr with
  | none => ∃ ts' s', runOps M.L ops ts s = some (ts', s') ∧ Wr M ro k .normal ts' ds s' Q
  | some (o, l, acc) => ∃ ts' s' sn, runSnaps M.L ops ts s acc = some (ts', s', sn) ∧ looksOk o ts' sn.reverse l = true ∧ Wr M ro k .normal ts' ds s' Q
def Wx (r : Option (AV × St)) (d : Option Nat) (k : List Fk) (dr : Dr) (ops : List PO) (ts : Tr AV) (ds : List Nat) (Q : Post) : Prop :=
  ∃ v s', r = some (v, s') ∧ Wo M ro k dr ops (putT d v ts) ds s' Q
def Wg (g : Option AV) (want : Bool) (d : Option Nat) (p : POp) (k : List Fk) (dr : Dr) (ops : List PO) (ts : Tr AV) (ds : List Nat) (s : St) (Q : Post) : Prop :=
  match g with
  | some (.bool x) => match x == want with
    | true => Wo M ro k dr (⟨d, p, none⟩ :: ops) ts ds s Q
    | false => Wo M ro k (dr.push s) ops (putT d undefA ts) ds s Q
  | some (.tup []) => Wo M ro k (dr.push s) ops (putT d undefA ts) ds s Q
  | _ => False
def Wc (f : Option AV) (l : Option (List AV)) (d : Option Nat) (k : List Fk) (dr : Dr) (ops : List PO) (ts : Tr AV) (ds : List Nat) (s : St) (Q : Post) : Prop :=
  ∃ fv asg, f = some fv ∧ l = some asg ∧ Wx M ro (callV M.L fv asg s) d k dr ops ts ds Q
def Wl (f : Nat) (l : List AV) (d : Option Nat) (k : List Fk) (dr : Dr) (ops : List PO) (ts : Tr AV) (ds : List Nat) (s : St) (Q : Post) : Prop :=
  Wx M ro (M.L.call f l s) d k dr ops ts ds Q
def Wi (c : Option AV) (k : List Fk) (a b : PC) (ts : Tr AV) (ds : List Nat) (s : St) (Q : Post) : Prop :=
  ∃ v, c = some (.bool v) ∧ (v = true → Wk M ro k a ts ds s Q) ∧ (v = false → Wk M ro k b ts ds s Q)

def Wf (f : Nat) (l : List AV) (s : St) (P : AV → St → Prop) : Prop := ∃ v s', M.L.call f l s = some (v, s') ∧ P v s'
def Wy (l : Option (List AV)) (s : St) (P : AV → St → Prop) : Prop := ∃ vs, l = some vs ∧ P (oneA vs) s
def Fin (rs : List PRes) (P : AV → St → Prop) : Post := fun x ts ds s => (∀ id, x ≠ .exit id) ∧ ∃ s', takeAll ds s = some s' ∧ Wy (ressA ts s' rs) s' P

variable {M} {ro}
variable {k : List Fk} {dr : Dr} {ops : List PO} {ts : Tr AV} {ds : List Nat} {s : St} {Q : Post} {d : Option Nat} {p : POp} {P : AV → St → Prop}

@[congr] theorem Wk_congr {c : PC} {ts' : Tr AV} {s' : St} (h : ts = ts') (h' : s = s') : Wk M ro k c ts ds s Q = Wk M ro k c ts' ds s' Q := by rw [h, h']
@[congr] theorem Wr_congr {x x' : AExit} {ts' : Tr AV} {s' : St} (h0 : x = x') (h : ts = ts') (h' : s = s') : Wr M ro k x ts ds s Q = Wr M ro k x' ts' ds s' Q := by rw [h0, h, h']
@[congr] theorem Wo_congr {ts' : Tr AV} {s' : St} {dr' : Dr} (h0 : dr = dr') (h : ts = ts') (h' : s = s') : Wo M ro k dr ops ts ds s Q = Wo M ro k dr' ops ts' ds s' Q := by rw [h0, h, h']
@[congr] theorem Wx_congr {r r' : Option (AV × St)} (h : r = r') : Wx M ro r d k dr ops ts ds Q = Wx M ro r' d k dr ops ts ds Q := by rw [h]
@[congr] theorem Wg_congr {g g' : Option AV} {w : Bool} (h : g = g') : Wg M ro g w d p k dr ops ts ds s Q = Wg M ro g' w d p k dr ops ts ds s Q := by rw [h]
@[congr] theorem Wc_congr {f f' : Option AV} {l l' : Option (List AV)} (h : f = f') (h' : l = l') : Wc M ro f l d k dr ops ts ds s Q = Wc M ro f' l' d k dr ops ts ds s Q := by rw [h, h']
@[congr] theorem Wl_congr {f : Nat} {l l' : List AV} {s' : St} (h : l = l') (h' : s = s') : Wl M ro f l d k dr ops ts ds s Q = Wl M ro f l' d k dr ops ts ds s' Q := by rw [h, h']
@[congr] theorem Wi_congr {c c' : Option AV} {a b : PC} (h : c = c') : Wi M ro c k a b ts ds s Q = Wi M ro c' k a b ts ds s Q := by rw [h]
@[congr] theorem Wy_congr {l l' : Option (List AV)} (h : l = l') : Wy l s P = Wy l' s P := by rw [h]

theorem ex_of {c : PC} {ts : Tr AV} {ds : List Nat} {s : St} {r : Res} (h : exStep M.L ro c ts ds s = r) : M.L.ex ro c ts ds s = r := by rw [lim_ex]; exact h

theorem Wr_nil {x : AExit} : Wr M ro [] x ts ds s Q = Q x ts ds s := by
  unfold Wr after
  apply propext
  constructor
  · rintro ⟨_, _, _, _, h, hq⟩; cases h; exact hq
  · intro h; exact ⟨_, _, _, _, rfl, h⟩

theorem Wk_after {c : PC} {K : List Fk} (e : after M ro K .normal ts ds s = (match M.L.ex ro c ts ds s with | some (x, ts, ds, s) => after M ro k x ts ds s | none => none)) : Wr M ro K .normal ts ds s Q = Wk M ro k c ts ds s Q := by
  unfold Wr Wk
  rw [e]
  apply propext
  cases M.L.ex ro c ts ds s with
  | none =>
    constructor
    · rintro ⟨_, _, _, _, h, _⟩; cases h
    · rintro ⟨_, _, _, _, h, _⟩; cases h
  | some y =>
    obtain ⟨x, t, d, s1⟩ := y
    constructor
    · rintro ⟨x', t', d', s', h, hq⟩; exact ⟨_, _, _, _, rfl, _, _, _, _, h, hq⟩
    · rintro ⟨_, _, _, _, h, h'⟩; cases h; exact h'

theorem Wr_sq {b : PC} : Wr M ro (.sq b :: k) .normal ts ds s Q = Wk M ro k b ts ds s Q := Wk_after rfl
theorem Wr_lp {a : PC} : Wr M ro (.lp a :: k) .normal ts ds s Q = Wk M ro k (.loop a) ts ds s Q := Wk_after rfl
theorem Wr_bl_exit {id id' : Nat} : Wr M ro (.bl id :: k) (.exit id') ts ds s Q = Wr M ro k (if id' = id then .normal else .exit id') ts ds s Q := rfl
theorem Wr_bl {id : Nat} : Wr M ro (.bl id :: k) .normal ts ds s Q = Wr M ro k .normal ts ds s Q := rfl
theorem Wr_bl_ret {id : Nat} : Wr M ro (.bl id :: k) .ret ts ds s Q = Wr M ro k .ret ts ds s Q := rfl
theorem Wr_sq_exit {b : PC} {id : Nat} : Wr M ro (.sq b :: k) (.exit id) ts ds s Q = Wr M ro k (.exit id) ts ds s Q := rfl
theorem Wr_sq_ret {b : PC} : Wr M ro (.sq b :: k) .ret ts ds s Q = Wr M ro k .ret ts ds s Q := rfl
theorem Wr_lp_exit {b : PC} {id : Nat} : Wr M ro (.lp b :: k) (.exit id) ts ds s Q = Wr M ro k (.exit id) ts ds s Q := rfl
theorem Wr_lp_ret {b : PC} : Wr M ro (.lp b :: k) .ret ts ds s Q = Wr M ro k .ret ts ds s Q := rfl

/-- A step of code is a step within what is around it. -/
theorem Wk_step {c c1 : PC} {f : Fk} (e : exStep M.L ro c ts ds s = (match M.L.ex ro c1 ts ds s with | some (x, ts, ds, s) => after M ro [f] x ts ds s | none => none))
    (hf : ∀ x t d' s' , after M ro (f :: k) x t d' s' = (match after M ro [f] x t d' s' with | some (x, ts, ds, s) => after M ro k x ts ds s | none => none)) : Wk M ro k c ts ds s Q = Wk M ro (f :: k) c1 ts ds s Q := by
  unfold Wk
  rw [lim_ex, e]
  apply propext
  cases M.L.ex ro c1 ts ds s with
  | none =>
    constructor
    · rintro ⟨_, _, _, _, h, _⟩; cases h
    · rintro ⟨_, _, _, _, h, _⟩; cases h
  | some y =>
    obtain ⟨x, t, d, s1⟩ := y
    simp only [Option.some.injEq, Prod.mk.injEq]
    constructor
    · rintro ⟨x', t', d', s', h, hq⟩
      refine ⟨x, t, d, s1, ⟨rfl, rfl, rfl, rfl⟩, ?_⟩
      unfold Wr at hq ⊢
      rw [hf, h]; exact hq
    · rintro ⟨_, _, _, _, ⟨rfl, rfl, rfl, rfl⟩, hq⟩
      unfold Wr at hq
      rw [hf] at hq
      cases ha : after M ro [f] x t d s1 with
      | none => rw [ha] at hq; obtain ⟨_, _, _, _, h, _⟩ := hq; cases h
      | some z =>
        obtain ⟨x', t', d', s'⟩ := z
        rw [ha] at hq
        exact ⟨_, _, _, _, rfl, hq⟩

theorem after_one (f : Fk) (k : List Fk) (x : AExit) (t : Tr AV) (d' : List Nat) (s' : St) : after M ro (f :: k) x t d' s' = (match after M ro [f] x t d' s' with | some (x, ts, ds, s) => after M ro k x ts ds s | none => none) := by
  cases f with
  | sq b =>
    cases x with
    | normal =>
      simp only [after]
      cases M.L.ex ro b t d' s' <;> rfl
    | exit id => simp [after]
    | ret => simp [after]
  | lp b =>
    cases x with
    | normal =>
      simp only [after]
      cases M.L.ex ro (.loop b) t d' s' <;> rfl
    | exit id => simp [after]
    | ret => simp [after]
  | bl id =>
    cases x with
    | normal => simp [after]
    | exit id' => simp [after]
    | ret => simp [after]

theorem Wk_seq {a b : PC} : Wk M ro k (.seq a b) ts ds s Q = Wk M ro (.sq b :: k) a ts ds s Q := by
  refine Wk_step ?_ (after_one _ _)
  simp only [exStep]
  cases M.L.ex ro a ts ds s with
  | none => rfl
  | some y =>
    obtain ⟨x, t, d, s1⟩ := y
    cases x with
    | normal =>
      simp only [after]
      cases M.L.ex ro b t d s1 <;> rfl
    | _ => rfl

theorem Wk_loop {a : PC} : Wk M ro k (.loop a) ts ds s Q = Wk M ro (.lp a :: k) a ts ds s Q := by
  refine Wk_step ?_ (after_one _ _)
  simp only [exStep]
  cases M.L.ex ro a ts ds s with
  | none => rfl
  | some y =>
    obtain ⟨x, t, d, s1⟩ := y
    cases x with
    | normal =>
      simp only [after]
      cases M.L.ex ro (.loop a) t d s1 <;> rfl
    | _ => rfl

theorem Wk_block {a : PC} {id : Nat} : Wk M ro k (.block id a) ts ds s Q = Wk M ro (.bl id :: k) a ts ds s Q := by
  refine Wk_step ?_ (after_one _ _)
  simp only [exStep]
  cases M.L.ex ro a ts ds s with
  | none => rfl
  | some y =>
    obtain ⟨x, t, d, s1⟩ := y
    cases x <;> rfl

theorem Wk_now {c : PC} {x : AExit} (e : exStep M.L ro c ts ds s = some (x, ts, ds, s)) : Wk M ro k c ts ds s Q = Wr M ro k x ts ds s Q := by
  unfold Wk
  rw [lim_ex, e]
  apply propext
  constructor
  · rintro ⟨_, _, _, _, h, hq⟩; cases h; exact hq
  · intro h; exact ⟨_, _, _, _, rfl, h⟩

theorem Wk_skip : Wk M ro k .skip ts ds s Q = Wr M ro k .normal ts ds s Q := Wk_now rfl
theorem Wk_exit {id : Nat} : Wk M ro k (.exit id) ts ds s Q = Wr M ro k (.exit id) ts ds s Q := Wk_now rfl
theorem Wk_ret : Wk M ro k .ret ts ds s Q = Wr M ro k .ret ts ds s Q := Wk_now rfl

theorem Wk_region : Wk M ro k (.region ops) ts ds s Q = Wo M ro k none ops ts ds s Q := by
  unfold Wk Wo
  rw [lim_ex]
  simp only [exStep]
  apply propext
  cases runOps M.L ops ts s with
  | none =>
    constructor
    · rintro ⟨_, _, _, _, h, _⟩; cases h
    · rintro ⟨_, _, h, _⟩; cases h
  | some y =>
    obtain ⟨t, s1⟩ := y
    constructor
    · rintro ⟨_, _, _, _, h, hq⟩; cases h; exact ⟨_, _, rfl, hq⟩
    · rintro ⟨_, _, h, hq⟩; cases h; exact ⟨_, _, _, _, rfl, hq⟩

theorem Wk_drawn {l : List Look} : Wk M ro k (.drawn ops l) ts ds s Q = Wo M ro k (some (ops, l, [])) ops ts ds s Q := by
  unfold Wk Wo
  rw [lim_ex]
  simp only [exStep]
  apply propext
  cases runSnaps M.L ops ts s [] with
  | none =>
    constructor
    · rintro ⟨_, _, _, _, h, _⟩; cases h
    · rintro ⟨_, _, _, h, _⟩; cases h
  | some y =>
    obtain ⟨t, s1, sn⟩ := y
    dsimp only
    cases hl : looksOk ops t sn.reverse l with
    | false =>
      constructor
      · rintro ⟨_, _, _, _, h, _⟩; simp at h
      · rintro ⟨_, _, _, h, h', _⟩; cases h; rw [hl] at h'; cases h'
    | true =>
      constructor
      · rintro ⟨_, _, _, _, h, hq⟩; simp only [if_true] at h; cases h; exact ⟨_, _, _, rfl, hl, hq⟩
      · rintro ⟨_, _, _, h, _, hq⟩; cases h; exact ⟨_, _, _, _, rfl, hq⟩

theorem runSnaps_ops (e : Eng) : ∀ (l : List PO) (ts : Tr AV) (s : St) (acc : List St), (runSnaps e l ts s acc).map (fun y => (y.1, y.2.1)) = runOps e l ts s
  | [], _, _, _ => rfl
  | p :: r, ts, s, acc => by
    simp only [runSnaps, runOps]
    cases opStep e p ts s with
    | none => rfl
    | some y => exact runSnaps_ops e r _ _ _

theorem Wk_drawnC {l : Look} {ls : List Look} : Wk M ro k (.drawn ops (l :: ls)) ts ds s Q = Wo M ro k (some (ops, l :: ls, [])) ops ts ds s Q := Wk_drawn

/-- Where nothing is to be looked at again, the order is all one. -/
theorem Wk_drawn0 : Wk M ro k (.drawn ops []) ts ds s Q = Wo M ro k none ops ts ds s Q := by
  rw [Wk_drawn]
  unfold Wo
  dsimp only
  rw [← runSnaps_ops M.L ops ts s []]
  apply propext
  cases runSnaps M.L ops ts s [] with
  | none =>
    constructor
    · rintro ⟨_, _, _, h, _⟩; cases h
    · rintro ⟨_, _, h, _⟩; cases h
  | some y =>
    obtain ⟨t, s1, sn⟩ := y
    constructor
    · rintro ⟨_, _, _, h, _, hq⟩; cases h; exact ⟨_, _, rfl, hq⟩
    · rintro ⟨_, _, h, hq⟩; cases h; exact ⟨_, _, _, rfl, rfl, hq⟩

theorem Wk_cond {x : X} {a b : PC} : Wk M ro k (.cond x a b) ts ds s Q = Wi M ro (evOf ts x) k a b ts ds s Q := by
  unfold Wk Wi
  rw [lim_ex]
  simp only [exStep]
  apply propext
  cases he : evOf ts x with
  | none =>
    constructor
    · rintro ⟨_, _, _, _, h, _⟩; cases h
    · rintro ⟨_, h, _⟩; cases h
  | some v =>
    cases v with
    | bool v =>
      cases v with
      | true =>
        constructor
        · intro h; exact ⟨true, rfl, fun _ => h, fun h => by cases h⟩
        · rintro ⟨_, h, h1, _⟩; cases h; exact h1 rfl
      | false =>
        constructor
        · intro h; exact ⟨false, rfl, fun h => (by cases h), fun _ => h⟩
        · rintro ⟨_, h, _, h1⟩; cases h; exact h1 rfl
    | _ =>
      constructor
      · rintro ⟨_, _, _, _, h, _⟩; cases h
      · rintro ⟨_, h, _⟩; cases h

theorem Wi_t {a b : PC} : Wi M ro (some (.bool true)) k a b ts ds s Q = Wk M ro k a ts ds s Q := by
  apply propext
  constructor
  · rintro ⟨_, h, h1, _⟩; cases h; exact h1 rfl
  · intro h; exact ⟨true, rfl, fun _ => h, fun h => by cases h⟩
theorem Wi_f {a b : PC} : Wi M ro (some (.bool false)) k a b ts ds s Q = Wk M ro k b ts ds s Q := by
  apply propext
  constructor
  · rintro ⟨_, h, _, h1⟩; cases h; exact h1 rfl
  · intro h; exact ⟨false, rfl, fun h => (by cases h), fun _ => h⟩
theorem Wi_split {v : Bool} {a b : PC} (h1 : v = true → Wk M ro k a ts ds s Q) (h2 : v = false → Wk M ro k b ts ds s Q) : Wi M ro (some (.bool v)) k a b ts ds s Q := ⟨v, rfl, h1, h2⟩

theorem Wo_nil : Wo M ro k none [] ts ds s Q = Wr M ro k .normal ts ds s Q := by
  apply propext
  constructor
  · rintro ⟨_, _, h, hq⟩; cases h; exact hq
  · intro h; exact ⟨_, _, rfl, h⟩
theorem Wo_nil' {o : List PO} {l : List Look} {acc : List St} : Wo M ro k (some (o, l, acc)) [] ts ds s Q = (looksOk o ts (s :: acc).reverse l = true ∧ Wr M ro k .normal ts ds s Q) := by
  apply propext
  constructor
  · rintro ⟨_, _, _, h, hl, hq⟩; cases h; exact ⟨hl, hq⟩
  · rintro ⟨hl, h⟩; exact ⟨_, _, _, rfl, hl, h⟩

theorem Wo_cons {q : PO} : Wo M ro k dr (q :: ops) ts ds s Q = ∃ t s', opStep M.L q ts s = some (t, s') ∧ Wo M ro k (dr.push s) ops t ds s' Q := by
  cases dr with
  | none =>
    apply propext
    constructor
    · rintro ⟨t, s', h, hq⟩
      simp only [runOps] at h
      cases ho : opStep M.L q ts s with
      | none => rw [ho] at h; cases h
      | some y => rw [ho] at h; exact ⟨_, _, rfl, t, s', h, hq⟩
    · rintro ⟨t, s', h, t1, s1, h1, hq⟩
      refine ⟨t1, s1, ?_, hq⟩
      simp only [runOps, h, h1]
  | some y =>
    obtain ⟨o, l, acc⟩ := y
    apply propext
    constructor
    · rintro ⟨t, s', sn, h, hl, hq⟩
      simp only [runSnaps] at h
      cases ho : opStep M.L q ts s with
      | none => rw [ho] at h; cases h
      | some y => rw [ho] at h; exact ⟨_, _, rfl, t, s', sn, h, hl, hq⟩
    · rintro ⟨t, s', h, t1, s1, sn, h1, hl, hq⟩
      refine ⟨t1, s1, sn, ?_, hl, hq⟩
      simp only [runSnaps, h, h1]

def POp.isCall : POp → Bool
  | .call .. => true
  | _ => false

theorem Wo_any : Wo M ro k dr (⟨d, p, none⟩ :: ops) ts ds s Q = Wx M ro (opVal M.L p (evOf ts) s) d k (dr.push s) ops ts ds Q := by
  rw [Wo_cons]
  unfold Wx
  simp only [opStep, wantedA]
  apply propext
  cases opVal M.L p (evOf ts) s with
  | none =>
    constructor
    · rintro ⟨_, _, h, _⟩; cases h
    · rintro ⟨_, _, h, _⟩; cases h
  | some y =>
    constructor
    · rintro ⟨_, _, h, hq⟩; cases h; exact ⟨_, _, rfl, hq⟩
    · rintro ⟨_, _, h, hq⟩; cases h; exact ⟨_, _, rfl, hq⟩

theorem Wo_op (h : p.isCall = false) : Wo M ro k dr (⟨d, p, none⟩ :: ops) ts ds s Q = Wx M ro (xop p (evOf ts) s) d k (dr.push s) ops ts ds Q := by
  rw [Wo_any]
  cases p with
  | call => cases h
  | _ => rfl

theorem Wo_move {x : X} : Wo M ro k dr (⟨d, .move x, none⟩ :: ops) ts ds s Q = Wx M ro (xop (.move x) (evOf ts) s) d k (dr.push s) ops ts ds Q := Wo_op rfl
theorem Wo_pick {c a b : X} : Wo M ro k dr (⟨d, .pick c a b, none⟩ :: ops) ts ds s Q = Wx M ro (xop (.pick c a b) (evOf ts) s) d k (dr.push s) ops ts ds Q := Wo_op rfl
theorem Wo_alloc {z : List AV} : Wo M ro k dr (⟨d, .alloc z, none⟩ :: ops) ts ds s Q = Wx M ro (xop (.alloc z) (evOf ts) s) d k (dr.push s) ops ts ds Q := Wo_op rfl
theorem Wo_box {x : X} : Wo M ro k dr (⟨d, .box x, none⟩ :: ops) ts ds s Q = Wx M ro (xop (.box x) (evOf ts) s) d k (dr.push s) ops ts ds Q := Wo_op rfl
theorem Wo_build {z : List AV} {ps : List (Nat × Nat × X)} : Wo M ro k dr (⟨d, .build z ps, none⟩ :: ops) ts ds s Q = Wx M ro (xop (.build z ps) (evOf ts) s) d k (dr.push s) ops ts ds Q := Wo_op rfl
theorem Wo_buildSlice {z : List AV} {n : Nat} {ps : List (Nat × Nat × X)} {e : Nat} : Wo M ro k dr (⟨d, .buildSlice z n ps e, none⟩ :: ops) ts ds s Q = Wx M ro (xop (.buildSlice z n ps e) (evOf ts) s) d k (dr.push s) ops ts ds Q := Wo_op rfl
theorem Wo_load1 {a : X} : Wo M ro k dr (⟨d, .load1 a, none⟩ :: ops) ts ds s Q = Wx M ro (xop (.load1 a) (evOf ts) s) d k (dr.push s) ops ts ds Q := Wo_op rfl
theorem Wo_loadN {n : Nat} {a : X} : Wo M ro k dr (⟨d, .loadN n a, none⟩ :: ops) ts ds s Q = Wx M ro (xop (.loadN n a) (evOf ts) s) d k (dr.push s) ops ts ds Q := Wo_op rfl
theorem Wo_store {n : Nat} {a v : X} : Wo M ro k dr (⟨d, .store n a v, none⟩ :: ops) ts ds s Q = Wx M ro (xop (.store n a v) (evOf ts) s) d k (dr.push s) ops ts ds Q := Wo_op rfl
theorem Wo_nilCheck {x : X} : Wo M ro k dr (⟨d, .nilCheck x, none⟩ :: ops) ts ds s Q = Wx M ro (xop (.nilCheck x) (evOf ts) s) d k (dr.push s) ops ts ds Q := Wo_op rfl
theorem Wo_bin {o : BinOp} {e : EqK} {x y : X} : Wo M ro k dr (⟨d, .bin o e x y, none⟩ :: ops) ts ds s Q = Wx M ro (xop (.bin o e x y) (evOf ts) s) d k (dr.push s) ops ts ds Q := Wo_op rfl
theorem Wo_un {o : UnOp} {x : X} : Wo M ro k dr (⟨d, .un o x, none⟩ :: ops) ts ds s Q = Wx M ro (xop (.un o x) (evOf ts) s) d k (dr.push s) ops ts ds Q := Wo_op rfl
theorem Wo_convInt {i : IntKind} {x : X} : Wo M ro k dr (⟨d, .convInt i x, none⟩ :: ops) ts ds s Q = Wx M ro (xop (.convInt i x) (evOf ts) s) d k (dr.push s) ops ts ds Q := Wo_op rfl
theorem Wo_convSame {x : X} : Wo M ro k dr (⟨d, .convSame x, none⟩ :: ops) ts ds s Q = Wx M ro (xop (.convSame x) (evOf ts) s) d k (dr.push s) ops ts ds Q := Wo_op rfl
theorem Wo_convStr {e : Nat} {x : X} : Wo M ro k dr (⟨d, .convStr e x, none⟩ :: ops) ts ds s Q = Wx M ro (xop (.convStr e x) (evOf ts) s) d k (dr.push s) ops ts ds Q := Wo_op rfl
theorem Wo_convBytes {x : X} : Wo M ro k dr (⟨d, .convBytes x, none⟩ :: ops) ts ds s Q = Wx M ro (xop (.convBytes x) (evOf ts) s) d k (dr.push s) ops ts ds Q := Wo_op rfl
theorem Wo_mkIface {i : TypeId} {x : X} : Wo M ro k dr (⟨d, .mkIface i x, none⟩ :: ops) ts ds s Q = Wx M ro (xop (.mkIface i x) (evOf ts) s) d k (dr.push s) ops ts ds Q := Wo_op rfl
theorem Wo_mkFunc {f : Fn} {a c : List X} : Wo M ro k dr (⟨d, .mkFunc f a c, none⟩ :: ops) ts ds s Q = Wx M ro (xop (.mkFunc f a c) (evOf ts) s) d k (dr.push s) ops ts ds Q := Wo_op rfl
theorem Wo_mkMap  : Wo M ro k dr (⟨d, .mkMap, none⟩ :: ops) ts ds s Q = Wx M ro (xop .mkMap (evOf ts) s) d k (dr.push s) ops ts ds Q := Wo_op rfl
theorem Wo_mkSlice {a b : Nat} {z : List AV} {l c : X} : Wo M ro k dr (⟨d, .mkSlice a b z l c, none⟩ :: ops) ts ds s Q = Wx M ro (xop (.mkSlice a b z l c) (evOf ts) s) d k (dr.push s) ops ts ds Q := Wo_op rfl
theorem Wo_sliceSl {e : Nat} {x : X} {lo hi mx : Option X} : Wo M ro k dr (⟨d, .sliceSl e x lo hi mx, none⟩ :: ops) ts ds s Q = Wx M ro (xop (.sliceSl e x lo hi mx) (evOf ts) s) d k (dr.push s) ops ts ds Q := Wo_op rfl
theorem Wo_sliceStr {x : X} {lo hi : Option X} : Wo M ro k dr (⟨d, .sliceStr x lo hi, none⟩ :: ops) ts ds s Q = Wx M ro (xop (.sliceStr x lo hi) (evOf ts) s) d k (dr.push s) ops ts ds Q := Wo_op rfl
theorem Wo_sliceArr {n e : Nat} {x : X} {lo hi mx : Option X} : Wo M ro k dr (⟨d, .sliceArr n e x lo hi mx, none⟩ :: ops) ts ds s Q = Wx M ro (xop (.sliceArr n e x lo hi mx) (evOf ts) s) d k (dr.push s) ops ts ds Q := Wo_op rfl
theorem Wo_fieldAddr {o : Nat} {x : X} : Wo M ro k dr (⟨d, .fieldAddr o x, none⟩ :: ops) ts ds s Q = Wx M ro (xop (.fieldAddr o x) (evOf ts) s) d k (dr.push s) ops ts ds Q := Wo_op rfl
theorem Wo_field {o : Nat} {n : Option Nat} {x : X} : Wo M ro k dr (⟨d, .field o n x, none⟩ :: ops) ts ds s Q = Wx M ro (xop (.field o n x) (evOf ts) s) d k (dr.push s) ops ts ds Q := Wo_op rfl
theorem Wo_idxArr {n e : Nat} {x i : X} : Wo M ro k dr (⟨d, .idxArr n e x i, none⟩ :: ops) ts ds s Q = Wx M ro (xop (.idxArr n e x i) (evOf ts) s) d k (dr.push s) ops ts ds Q := Wo_op rfl
theorem Wo_idxSl {e : Nat} {x i : X} : Wo M ro k dr (⟨d, .idxSl e x i, none⟩ :: ops) ts ds s Q = Wx M ro (xop (.idxSl e x i) (evOf ts) s) d k (dr.push s) ops ts ds Q := Wo_op rfl
theorem Wo_idxAgg {n e : Nat} {g : Bool} {x i : X} : Wo M ro k dr (⟨d, .idxAgg n e g x i, none⟩ :: ops) ts ds s Q = Wx M ro (xop (.idxAgg n e g x i) (evOf ts) s) d k (dr.push s) ops ts ds Q := Wo_op rfl
theorem Wo_idxStr {x i : X} : Wo M ro k dr (⟨d, .idxStr x i, none⟩ :: ops) ts ds s Q = Wx M ro (xop (.idxStr x i) (evOf ts) s) d k (dr.push s) ops ts ds Q := Wo_op rfl
theorem Wo_lookup {z : AV} {m x : X} {o : Bool} : Wo M ro k dr (⟨d, .lookup z m x o, none⟩ :: ops) ts ds s Q = Wx M ro (xop (.lookup z m x o) (evOf ts) s) d k (dr.push s) ops ts ds Q := Wo_op rfl
theorem Wo_mapUpd {m x v : X} : Wo M ro k dr (⟨d, .mapUpd m x v, none⟩ :: ops) ts ds s Q = Wx M ro (xop (.mapUpd m x v) (evOf ts) s) d k (dr.push s) ops ts ds Q := Wo_op rfl
theorem Wo_extract {x : X} {i : Nat} : Wo M ro k dr (⟨d, .extract x i, none⟩ :: ops) ts ds s Q = Wx M ro (xop (.extract x i) (evOf ts) s) d k (dr.push s) ops ts ds Q := Wo_op rfl
theorem Wo_append {a b : Nat} {z : List AV} {x y : X} : Wo M ro k dr (⟨d, .append a b z x y, none⟩ :: ops) ts ds s Q = Wx M ro (xop (.append a b z x y) (evOf ts) s) d k (dr.push s) ops ts ds Q := Wo_op rfl
theorem Wo_appendN {a b : Nat} {z : List AV} {x y : X} : Wo M ro k dr (⟨d, .appendN a b z x y, none⟩ :: ops) ts ds s Q = Wx M ro (xop (.appendN a b z x y) (evOf ts) s) d k (dr.push s) ops ts ds Q := Wo_op rfl
theorem Wo_copy {e : Nat} {x y : X} : Wo M ro k dr (⟨d, .copy e x y, none⟩ :: ops) ts ds s Q = Wx M ro (xop (.copy e x y) (evOf ts) s) d k (dr.push s) ops ts ds Q := Wo_op rfl
theorem Wo_len {n : Nat} {x : X} : Wo M ro k dr (⟨d, .len n x, none⟩ :: ops) ts ds s Q = Wx M ro (xop (.len n x) (evOf ts) s) d k (dr.push s) ops ts ds Q := Wo_op rfl
theorem Wo_lenArr {n : Nat} : Wo M ro k dr (⟨d, .lenArr n, none⟩ :: ops) ts ds s Q = Wx M ro (xop (.lenArr n) (evOf ts) s) d k (dr.push s) ops ts ds Q := Wo_op rfl
theorem Wo_cap {x : X} : Wo M ro k dr (⟨d, .cap x, none⟩ :: ops) ts ds s Q = Wx M ro (xop (.cap x) (evOf ts) s) d k (dr.push s) ops ts ds Q := Wo_op rfl
theorem Wo_minmax {b : Bool} {l : List X} : Wo M ro k dr (⟨d, .minmax b l, none⟩ :: ops) ts ds s Q = Wx M ro (xop (.minmax b l) (evOf ts) s) d k (dr.push s) ops ts ds Q := Wo_op rfl
theorem Wo_clear {z : List AV} {x : X} : Wo M ro k dr (⟨d, .clear z x, none⟩ :: ops) ts ds s Q = Wx M ro (xop (.clear z x) (evOf ts) s) d k (dr.push s) ops ts ds Q := Wo_op rfl
theorem Wo_clearMap {x : X} : Wo M ro k dr (⟨d, .clearMap x, none⟩ :: ops) ts ds s Q = Wx M ro (xop (.clearMap x) (evOf ts) s) d k (dr.push s) ops ts ds Q := Wo_op rfl
theorem Wo_delete {m x : X} : Wo M ro k dr (⟨d, .delete m x, none⟩ :: ops) ts ds s Q = Wx M ro (xop (.delete m x) (evOf ts) s) d k (dr.push s) ops ts ds Q := Wo_op rfl

theorem Wo_call {f : X} {asg : List X} : Wo M ro k dr (⟨d, .call f asg, none⟩ :: ops) ts ds s Q = Wc M ro (evOf ts f) (evs (evOf ts) asg) d k (dr.push s) ops ts ds s Q := by
  rw [Wo_any]
  unfold Wc
  simp only [opVal]
  apply propext
  cases evOf ts f with
  | none =>
    constructor
    · rintro ⟨_, _, h, _⟩; cases h
    · rintro ⟨_, _, h, _⟩; cases h
  | some fv =>
    cases evs (evOf ts) asg with
    | none =>
      constructor
      · rintro ⟨_, _, h, _⟩; cases h
      · rintro ⟨_, _, _, h, _⟩; cases h
    | some l =>
      constructor
      · intro h; exact ⟨_, _, rfl, rfl, h⟩
      · rintro ⟨_, _, h, h', hq⟩; cases h; cases h'; exact hq

theorem Wo_guard {t : Nat} {b : Bool} : Wo M ro k dr (⟨d, p, some (t, b)⟩ :: ops) ts ds s Q = Wg M ro (ts.get t) b d p k dr ops ts ds s Q := by
  rw [Wo_cons]
  unfold Wg
  simp only [opStep, wantedA]
  cases hg : ts.get t with
  | none => simp
  | some v =>
    cases v with
    | bool x =>
      dsimp only
      cases hx : x == b with
      | true =>
        dsimp only
        rw [Wo_any]
        unfold Wx
        apply propext
        cases opVal M.L p (evOf ts) s with
        | none =>
          constructor
          · rintro ⟨_, _, h, _⟩; cases h
          · rintro ⟨_, _, h, _⟩; cases h
        | some y =>
          constructor
          · rintro ⟨_, _, h, hq⟩; cases h; exact ⟨_, _, rfl, hq⟩
          · rintro ⟨_, _, h, hq⟩; cases h; exact ⟨_, _, rfl, hq⟩
      | false =>
        dsimp only
        apply propext
        constructor
        · rintro ⟨_, _, h, hq⟩; cases h; exact hq
        · intro h; exact ⟨_, _, rfl, h⟩
    | tup l =>
      cases l with
      | nil =>
        dsimp only
        apply propext
        constructor
        · rintro ⟨_, _, h, hq⟩; cases h; exact hq
        · intro h; exact ⟨_, _, rfl, h⟩
      | cons => simp
    | _ => simp

theorem Wx_some {v : AV} {s' : St} : Wx M ro (some (v, s')) d k dr ops ts ds Q = Wo M ro k dr ops (putT d v ts) ds s' Q := by
  apply propext
  constructor
  · rintro ⟨_, _, h, hq⟩; cases h; exact hq
  · intro h; exact ⟨_, _, rfl, h⟩
theorem Wg_tt : Wg M ro (some (.bool true)) true d p k dr ops ts ds s Q = Wo M ro k dr (⟨d, p, none⟩ :: ops) ts ds s Q := rfl
theorem Wg_ff : Wg M ro (some (.bool false)) false d p k dr ops ts ds s Q = Wo M ro k dr (⟨d, p, none⟩ :: ops) ts ds s Q := rfl
theorem Wg_tf : Wg M ro (some (.bool true)) false d p k dr ops ts ds s Q = Wo M ro k (dr.push s) ops (putT d undefA ts) ds s Q := rfl
theorem Wg_ft : Wg M ro (some (.bool false)) true d p k dr ops ts ds s Q = Wo M ro k (dr.push s) ops (putT d undefA ts) ds s Q := rfl
theorem Wg_undef {b : Bool} : Wg M ro (some undefA) b d p k dr ops ts ds s Q = Wo M ro k (dr.push s) ops (putT d undefA ts) ds s Q := rfl
theorem Wg_split {c b : Bool} (h1 : c = true → Wg M ro (some (.bool true)) b d p k dr ops ts ds s Q) (h2 : c = false → Wg M ro (some (.bool false)) b d p k dr ops ts ds s Q) : Wg M ro (some (.bool c)) b d p k dr ops ts ds s Q := by
  cases c with
  | true => exact h1 rfl
  | false => exact h2 rfl
theorem Wc_fn {g : Nat} {a c l : List AV} : Wc M ro (some (.fn (.func g) a c)) (some l) d k dr ops ts ds s Q = Wl M ro g (a ++ l ++ c) d k dr ops ts ds s Q := by
  apply propext
  constructor
  · rintro ⟨_, _, h, h', hq⟩; cases h; cases h'; exact hq
  · intro h; exact ⟨_, _, rfl, rfl, h⟩

theorem Wl_of {f : Nat} {l : List AV} (h : Wf M f l s P) (hq : ∀ v s', P v s' → Wo M ro k dr ops (putT d v ts) ds s' Q) : Wl M ro f l d k dr ops ts ds s Q := by
  obtain ⟨v, s', h1, h2⟩ := h
  exact ⟨v, s', h1, hq v s' h2⟩
theorem Wl_eq {f : Nat} {l : List AV} {v : AV} {s' : St} (h : M.L.call f l s = some (v, s')) : Wl M ro f l d k dr ops ts ds s Q = Wo M ro k dr ops (putT d v ts) ds s' Q := by
  unfold Wl
  rw [h, Wx_some]

theorem Wf.mono {f : Nat} {l : List AV} {P' : AV → St → Prop} (h : Wf M f l s P) (hp : ∀ v s', P v s' → P' v s') : Wf M f l s P' := by
  obtain ⟨v, s', h1, h2⟩ := h
  exact ⟨v, s', h1, hp v s' h2⟩

theorem Wf_enter {f : Nat} {l : List AV} {fd : FD} (hf : M.FT f = some fd) (hs : M.SM f = none) (hn : Nat.ble l.length fd.ntmps = true) (h : Wk M none [] fd.body (initT 0 l .lf) [] s (Fin fd.results P)) : Wf M f l s P := by
  obtain ⟨x, t, d, s1, h1, h2⟩ := h
  rw [Wr_nil] at h2
  obtain ⟨hx, s2, ht, vs, hr, hp⟩ := h2
  refine ⟨oneA vs, s2, ?_, hp⟩
  rw [lim_call]
  unfold callStep
  rw [hs, hf]
  dsimp only
  rw [if_pos hn, h1]
  unfold finish
  cases x with
  | exit id => exact (hx id rfl).elim
  | _ => simp only [ht, hr]

theorem Wr_fin {rs : List PRes} : Wr M ro [] .ret ts [] s (Fin rs P) = Wy (ressA ts s rs) s P := by
  rw [Wr_nil]
  apply propext
  constructor
  · rintro ⟨_, _, h, hq⟩; cases h; exact hq
  · intro h; exact ⟨fun _ h => (by cases h), _, rfl, h⟩
theorem Wr_fin' {rs : List PRes} : Wr M ro [] .normal ts [] s (Fin rs P) = Wy (ressA ts s rs) s P := by
  rw [Wr_nil]
  apply propext
  constructor
  · rintro ⟨_, _, h, hq⟩; cases h; exact hq
  · intro h; exact ⟨fun _ h => (by cases h), _, rfl, h⟩
theorem Wy_some {l : List AV} : Wy (some l) s P = P (oneA l) s := by
  apply propext
  constructor
  · rintro ⟨_, h, hq⟩; cases h; exact hq
  · intro h; exact ⟨_, rfl, h⟩

/-- A loop, by what holds at its head. -/
theorem loop_ind {a : PC} (I : Nat → Tr AV → St → Prop) (step : ∀ n ts s, I n ts s → (∀ m ts' s', m < n → I m ts' s' → Wk M ro k (.loop a) ts' ds s' Q) → Wk M ro (.lp a :: k) a ts ds s Q) : ∀ {n ts s}, I n ts s → Wk M ro k (.loop a) ts ds s Q := by
  intro n
  induction n using Nat.strongRecOn with
  | ind n ih =>
    intro ts s h
    rw [Wk_loop]
    exact step n ts s h fun m ts' s' hm h' => ih m hm h'
end
end Go.Proofs.Ytjejgnbdlfkenaa.D
namespace Go.Proofs.Ytjejgnbdlfkenaa.D
set_option linter.unusedSimpArgs false
set_option linter.unusedVariables false
theorem leaf_int {k : IntKind} {a b : Int} : leafEq 1 (.int k a) (.int k b) = some (a == b) := by simp [leafEq]
theorem cellsEq_int {ks : List Nat} {l m : List AV} {k : IntKind} {a b : Int} {r : Bool} (hl : l.length = ks.length) (hm : m.length = ks.length) (h : cellsEq ks l m = some r) : cellsEq (1 :: ks) (.int k a :: l) (.int k b :: m) = some (a == b && r) := by
  simp only [cellsEq, leaf_int]
  cases hab : a == b with
  | true => simp [h]
  | false => simp [hl, hm]
theorem cellsEq_nil : cellsEq [] [] [] = some true := rfl
theorem cellsEq1 {k : IntKind} {a b : Int} : cellsEq [1] [.int k a] [.int k b] = some (a == b) := by rw [cellsEq_int rfl rfl cellsEq_nil, Bool.and_true]
theorem cellsEq2 {k k' : IntKind} {a b c d : Int} : cellsEq [1, 1] [.int k a, .int k' b] [.int k c, .int k' d] = some (a == c && b == d) := cellsEq_int rfl rfl cellsEq1
theorem cellsEq3 {k k' k2 : IntKind} {a b c d e f : Int} : cellsEq [1, 1, 1] [.int k a, .int k' b, .int k2 e] [.int k c, .int k' d, .int k2 f] = some (a == c && (b == d && e == f)) := cellsEq_int rfl rfl cellsEq2
/-- How long a slice is. -/
def len1 (v : Option AV) (s : St) : Option (AV × St) :=
  match v with
  | some .nilSlice => some (.int .i64 0, s)
  | some (.tail ..) => some (.int .i64 0, s)
  | some (.slice _ _ n _ _) => some (.int .i64 n, s)
  | some (.raw (.slice _ n _)) => some (.int .i64 n, s)
  | _ => none
/-- Where an element of a slice lies. -/
def idx1 (e : Nat) (v i : Option AV) (s : St) : Option (AV × St) :=
  match v, i with
  | some (.slice b o len _ _), some i => match indexA i len with
    | some k => some (.ptr b (o + k * e), s)
    | none => none
  | _, _ => none
theorem len1_nil {s : St} : len1 (some .nilSlice) s = some (.int .i64 0, s) := rfl
theorem len1_tail {s : St} {b o a : Nat} : len1 (some (.tail b o a)) s = some (.int .i64 0, s) := rfl
theorem len1_slice {s : St} {b o n c : Nat} {l : Bool} : len1 (some (.slice b o n c l)) s = some (.int .i64 n, s) := rfl
theorem len1_raw {s : St} {a : Option Addr} {n c : Nat} : len1 (some (.raw (.slice a n c))) s = some (.int .i64 n, s) := rfl
theorem indexA_nat {k : IntKind} {j n : Nat} (h : j < n) : indexA (.int k (j : Int)) n = some j := by
  show (if 0 ≤ (j : Int) ∧ (j : Int) < (n : Int) then some ((j : Int).toNat) else none) = some j
  rw [if_pos ⟨by omega, by omega⟩]
  simp
theorem idx1_slice {e b o n c j : Nat} {l : Bool} {s : St} {k : IntKind} (h : j < n) : idx1 e (some (.slice b o n c l)) (some (.int k (j : Int))) s = some (.ptr b (o + j * e), s) := by
  unfold idx1
  simp only [indexA_nat h]
theorem idx1_slice0 {e b o n c : Nat} {l : Bool} {s : St} {k : IntKind} (h : 0 < n) : idx1 e (some (.slice b o n c l)) (some (.int k 0)) s = some (.ptr b o, s) := by
  have := idx1_slice (e := e) (b := b) (o := o) (c := c) (l := l) (s := s) (k := k) h
  simpa using this
section
variable {M : Mach} {ro : Option Nat} {k : List Fk} {dr : Dr} {ops : List PO} {ts : Tr AV} {ds : List Nat} {s : St} {Q : Post} {d : Option Nat}
theorem Wo_len0 {x : X} : Wo M ro k dr (⟨d, .len 0 x, none⟩ :: ops) ts ds s Q = Wx M ro (xop (.len 0 x) (evOf ts) s) d k (dr.push s) ops ts ds Q := Wo_op rfl
theorem Wo_len1 {x : X} : Wo M ro k dr (⟨d, .len 1 x, none⟩ :: ops) ts ds s Q = Wx M ro (len1 (evOf ts x) s) d k (dr.push s) ops ts ds Q := Wo_op rfl
theorem Wo_len2 {x : X} : Wo M ro k dr (⟨d, .len 2 x, none⟩ :: ops) ts ds s Q = Wx M ro (xop (.len 2 x) (evOf ts) s) d k (dr.push s) ops ts ds Q := Wo_op rfl
theorem Wo_idx1 {e : Nat} {x i : X} : Wo M ro k dr (⟨d, .idxSl e x i, none⟩ :: ops) ts ds s Q = Wx M ro (idx1 e (evOf ts x) (evOf ts i) s) d k (dr.push s) ops ts ds Q := Wo_op rfl
end
theorem Wk_cut {M : Mach} {ro : Option Nat} {k : List Fk} {c : PC} {ts : Tr AV} {ds : List Nat} {s : St} {Q : Post} (I : Tr AV → St → Prop) (h1 : Wk M ro [] c ts ds s fun x ts' ds' s' => x = .normal ∧ ds' = ds ∧ I ts' s')
    (h2 : ∀ ts' s', I ts' s' → Wr M ro k .normal ts' ds s' Q) : Wk M ro k c ts ds s Q := by
  obtain ⟨x, ts', ds', s', he, h⟩ := h1
  rw [Wr_nil] at h
  obtain ⟨rfl, rfl, hI⟩ := h
  exact ⟨_, _, _, _, he, h2 _ _ hI⟩
theorem i64_in {n : Int} (h : -9223372036854775808 ≤ n) (k : n ≤ 9223372036854775807) : IntKind.i64.wrap n = n := by
  simp [IntKind.wrap, IntKind.signed, IntKind.bits]; omega
theorem u64_in {n : Int} (h : 0 ≤ n) (k : n ≤ 18446744073709551615) : IntKind.u64.wrap n = n := by
  simp [IntKind.wrap, IntKind.signed, IntKind.bits]; omega
theorem u32_in {n : Int} (h : 0 ≤ n) (k : n ≤ 4294967295) : IntKind.u32.wrap n = n := by
  simp [IntKind.wrap, IntKind.signed, IntKind.bits]; omega
theorem u8_in {n : Int} (h : 0 ≤ n) (k : n ≤ 255) : IntKind.u8.wrap n = n := by
  simp [IntKind.wrap, IntKind.signed, IntKind.bits]; omega
theorem succ_in {j : Nat} (h : j < 9223372036854775807) : IntKind.i64.wrap ((j : Int) + 1) = ((j + 1 : Nat) : Int) := by
  rw [i64_in (by omega) (by omega)]; simp
theorem Tr.put_one {α : Type} (v u : Option α) : ∀ (n k : Nat), k < n → Tr.put v (Tr.one u n k) k = Tr.one v n k
  | 0, k, h => by omega
  | n + 1, 0, _ => rfl
  | n + 1, k + 1, h => by
    have ih := Tr.put_one v u n (k / 2) (by omega)
    simp only [Tr.one_succ, Tr.beq_mod]
    by_cases hp : k % 2 = 0
    · simp only [hp, decide_true, Tr.put_nd_succ, Tr.beq_mod, ih]
    · simp only [hp, decide_false, Tr.put_nd_succ, Tr.beq_mod, ih]
theorem Tr.put_put {α : Type} (v u : Option α) : ∀ (t : Tr α) (k : Nat), Tr.put v (Tr.put u t k) k = Tr.put v t k
  | .lf, k => by rw [Tr.put_lf, Tr.put_lf, Tr.put_one v u _ _ (by omega)]
  | .nd l x r, 0 => rfl
  | .nd l x r, k + 1 => by
    simp only [Tr.put_nd_succ, Tr.beq_mod]
    by_cases hp : k % 2 = 0
    · simp only [hp, decide_true, Tr.put_nd_succ, Tr.beq_mod, Tr.put_put v u l]
    · simp only [hp, decide_false, Tr.put_nd_succ, Tr.beq_mod, Tr.put_put v u r]
theorem St.put_put {s : St} {b : Nat} {o o' : AObj} : (s.put b o).put b o' = s.put b o' := by
  unfold St.put Tr.set
  simp only [Tr.put_put]
theorem St.put_new {s : St} {o o' : AObj} : (s.new o).put s.next o' = s.new o' := by
  unfold St.put St.new Tr.set
  simp only [Tr.put_put]
theorem St.put_new1 {s : St} {o p o' : AObj} : ((s.new o).new p).put (s.next + 1) o' = (s.new o).new o' := St.put_new
theorem cells_bool {b : Bool} : (.bool b : AV).cells = [.bool b] := rfl
theorem cell_bool {b : Bool} : (.bool b : AV).cell = true := rfl
theorem cells_int {k : IntKind} {n : Int} : (.int k n : AV).cells = [.int k n] := rfl
theorem cell_int {k : IntKind} {n : Int} : (.int k n : AV).cell = true := rfl
theorem cells_str {x : ByteArray} : (.str x : AV).cells = [.str x] := rfl
theorem cell_str {x : ByteArray} : (.str x : AV).cell = true := rfl
theorem cells_ptr {b o : Nat} : (.ptr b o : AV).cells = [.ptr b o] := rfl
theorem cell_ptr {b o : Nat} : (.ptr b o : AV).cell = true := rfl
theorem cells_nilPtr  : (.nilPtr : AV).cells = [.nilPtr] := rfl
theorem cell_nilPtr  : (.nilPtr : AV).cell = true := rfl
theorem cells_slice {b o n c : Nat} {l : Bool} : (.slice b o n c l : AV).cells = [.slice b o n c l] := rfl
theorem cell_slice {b o n c : Nat} {l : Bool} : (.slice b o n c l : AV).cell = true := rfl
theorem cells_nilSlice  : (.nilSlice : AV).cells = [.nilSlice] := rfl
theorem cell_nilSlice  : (.nilSlice : AV).cell = true := rfl
theorem cells_tail {b o a : Nat} : (.tail b o a : AV).cells = [.tail b o a] := rfl
theorem cell_tail {b o a : Nat} : (.tail b o a : AV).cell = true := rfl
theorem cells_map {r : Nat} : (.map r : AV).cells = [.map r] := rfl
theorem cell_map {r : Nat} : (.map r : AV).cell = true := rfl
theorem cells_nilMap  : (.nilMap : AV).cells = [.nilMap] := rfl
theorem cell_nilMap  : (.nilMap : AV).cell = true := rfl
theorem cells_fn {f : Fn} {a c : List AV} : (.fn f a c : AV).cells = [.fn f a c] := rfl
theorem cell_fn {f : Fn} {a c : List AV} : (.fn f a c : AV).cell = true := rfl
theorem cells_yld {r : Nat} : (.yld r : AV).cells = [.yld r] := rfl
theorem cell_yld {r : Nat} : (.yld r : AV).cell = true := rfl
theorem cells_nilFn  : (.nilFn : AV).cells = [.nilFn] := rfl
theorem cell_nilFn  : (.nilFn : AV).cell = true := rfl
theorem cells_iface {t : TypeId} {v : AV} : (.iface t v : AV).cells = [.iface t v] := rfl
theorem cell_iface {t : TypeId} {v : AV} : (.iface t v : AV).cell = true := rfl
theorem cells_nilIface  : (.nilIface : AV).cells = [.nilIface] := rfl
theorem cell_nilIface  : (.nilIface : AV).cell = true := rfl
theorem cells_tup {l : List AV} : (.tup l : AV).cells = [.tup l] := rfl
theorem cells_agg {l : List AV} : (AV.agg l).cells = l := rfl
attribute [go_sem] cells_bool cell_bool cells_int cell_int cells_str cell_str cells_ptr cell_ptr cells_nilPtr cell_nilPtr cells_slice cell_slice cells_nilSlice cell_nilSlice cells_tail cell_tail cells_map cell_map cells_nilMap cell_nilMap cells_fn cell_fn cells_yld cell_yld cells_nilFn cell_nilFn cells_iface cell_iface cells_nilIface cell_nilIface cells_tup cells_agg
attribute [go_sem] St.put_put St.put_new St.put_new1 cellsEq1 cellsEq2 cellsEq3
attribute [go_sem] Wk_seq Wk_skip Wk_exit Wk_ret Wk_region Wk_drawn0 Wk_cond Wi_t Wi_f Wr_sq Wr_lp Wr_bl_exit Wr_bl Wr_bl_ret Wr_sq_exit Wr_sq_ret Wr_lp_exit Wr_lp_ret Wo_nil Wo_nil' Wo_move Wo_pick Wo_alloc Wo_box Wo_build Wo_buildSlice Wo_load1 Wo_loadN Wo_store Wo_nilCheck Wo_bin Wo_un Wo_convInt Wo_convSame Wo_convStr Wo_convBytes Wo_mkIface Wo_mkFunc Wo_mkMap Wo_mkSlice Wo_sliceSl Wo_sliceStr Wo_sliceArr Wo_fieldAddr Wo_field Wo_idxArr Wo_idx1 Wo_idxAgg Wo_idxStr Wo_lookup Wo_mapUpd Wo_extract Wo_append Wo_appendN Wo_copy Wo_len0 Wo_len1 Wo_len2 len1_nil len1_tail len1_slice len1_raw Wo_lenArr Wo_cap Wo_minmax Wo_clear Wo_clearMap Wo_delete Wo_call Wo_guard Wx_some Wg_tt Wg_ff Wg_tf Wg_ft Wg_undef Wc_fn Wr_fin Wr_fin' Wy_some Dr.push
attribute [go_sem] xop evOf evs evO putT Tr.get_set Tr.get_lf binA intBin unA eqA aggEq boolEq nilEq nilOf initT ressA resA oneA loadA storeA splice allCell St.get_put St.get_new St.next_put St.next_new newA fillA partA foldMM indexA looksOk lookOk lookAll wantedA same sames
attribute [go_sem] Int.cast_ofNat_Int Int.toNat_natCast_add_one Nat.add_left_cancel_iff Nat.left_eq_add Nat.add_eq_left Int.toNat_natCast Nat.add_assoc Int.ofNat_lt Int.ofNat_le Nat.lt_add_one_of_lt Nat.lt_add_one Nat.lt_add_right Nat.lt_add_right_iff_pos Nat.add_lt_add_iff_left
attribute [go_sem] Nat.add_zero Nat.zero_add if_true if_false ite_true ite_false List.length_cons List.length_nil List.getElem?_cons_succ List.getElem?_cons_zero List.drop_succ_cons List.drop_zero List.take_succ_cons List.take_zero List.cons_append List.nil_append List.append_nil Bool.and_true Bool.true_and and_true true_and and_self Bool.not_true Bool.not_false Option.some.injEq beq_self_eq_true bne_self_eq_false decide_true decide_false List.reverse_cons List.reverse_nil Nat.beq_refl false_implies implies_true imp_false not_false_eq_true
/-- What lay lies as it lay. -/
structure Fr (s s' : St) : Prop where
  le : s.next ≤ s'.next
  get : ∀ b, b < s.next → s'.get b = s.get b
/-- What lay, but for one block, lies as it lay. -/
structure FrX (x : Nat) (s s' : St) : Prop where
  le : s.next ≤ s'.next
  get : ∀ b, b < s.next → b ≠ x → s'.get b = s.get b

theorem Fr.refl (s : St) : Fr s s := ⟨Nat.le_refl _, fun _ _ => rfl⟩
theorem Fr.trans {a b c : St} (h : Fr a b) (k : Fr b c) : Fr a c := ⟨Nat.le_trans h.le k.le, fun x hx => (k.get x (Nat.lt_of_lt_of_le hx h.le)).trans (h.get x hx)⟩
theorem Fr.new {a b : St} (h : Fr a b) (o : AObj) : Fr a (b.new o) := ⟨Nat.le_succ_of_le h.le, fun x hx => by rw [St.get_new, if_neg (by have := h.le; omega)]; exact h.get x hx⟩
theorem Fr.put {a b : St} (h : Fr a b) {x : Nat} (hx : a.next ≤ x) (o : AObj) : Fr a (b.put x o) := ⟨h.le, fun y hy => by rw [St.get_put, if_neg (by omega)]; exact h.get y hy⟩
theorem Fr.drop {a b : St} (h : Fr a b) {x : Nat} (hx : a.next ≤ x) : Fr a (b.drop x) := ⟨h.le, fun y hy => by rw [St.get_drop, if_neg (by omega)]; exact h.get y hy⟩
theorem Fr.x {a b : St} (h : Fr a b) (x : Nat) : FrX x a b := ⟨h.le, fun y hy _ => h.get y hy⟩
theorem FrX.refl (x : Nat) (s : St) : FrX x s s := ⟨Nat.le_refl _, fun _ _ _ => rfl⟩
theorem FrX.then {x : Nat} {a b c : St} (h : FrX x a b) (k : Fr b c) : FrX x a c := ⟨Nat.le_trans h.le k.le, fun y hy hn => (k.get y (Nat.lt_of_lt_of_le hy h.le)).trans (h.get y hy hn)⟩
theorem FrX.trans {x : Nat} {a b c : St} (h : FrX x a b) (k : FrX x b c) : FrX x a c := ⟨Nat.le_trans h.le k.le, fun y hy hn => (k.get y (Nat.lt_of_lt_of_le hy h.le) hn).trans (h.get y hy hn)⟩
theorem FrX.new {x : Nat} {a b : St} (h : FrX x a b) (o : AObj) : FrX x a (b.new o) := ⟨Nat.le_succ_of_le h.le, fun y hy hn => by rw [St.get_new, if_neg (by have := h.le; omega)]; exact h.get y hy hn⟩
theorem FrX.put {x : Nat} {a b : St} (h : FrX x a b) {z : Nat} (hx : z = x ∨ a.next ≤ z) (o : AObj) : FrX x a (b.put z o) := ⟨h.le, fun y hy hn => by rw [St.get_put, if_neg (by omega)]; exact h.get y hy hn⟩

theorem eq_next_f {b : Nat} {s : St} (h : b < s.next) : (b = s.next) = False := by simp; omega
theorem eq_next_f' {b : Nat} {s : St} (h : b < s.next) : (s.next = b) = False := by simp; omega
theorem eq_next_k {b k : Nat} {s : St} (h : b < s.next) : (b = s.next + k) = False := by simp; omega
theorem eq_next_k' {b k : Nat} {s : St} (h : b < s.next) : (s.next + k = b) = False := by simp; omega
end Go.Proofs.Ytjejgnbdlfkenaa.D
namespace Go.Proofs.Ytjejgnbdlfkenaa.Base
open D
noncomputable def mm : Mach := ⟨tab.get, noSums⟩
theorem mm_ft : FnsOk Try.prog mm.FT := tab_ok
theorem mm_sm : SumsOk Try.prog mm.SM := noSums_ok
theorem mm_sn : SumsNext mm.SM := noSums_next
theorem sm {f : Nat} (_ : True) : mm.SM f = none := rfl
theorem mm_mixed : Try.prog.follows .mixedOrders = true := by kernel_rfl
theorem ft2 : mm.FT 2 = some fd2 := by kernel_rfl
theorem ft3 : mm.FT 3 = some fd3 := by kernel_rfl
theorem ft4 : mm.FT 4 = some fd4 := by kernel_rfl
theorem ft5 : mm.FT 5 = some fd5 := by kernel_rfl
theorem ft6 : mm.FT 6 = some fd6 := by kernel_rfl
theorem ft7 : mm.FT 7 = some fd7 := by kernel_rfl
theorem ft8 : mm.FT 8 = some fd8 := by kernel_rfl
theorem ft9 : mm.FT 9 = some fd9 := by kernel_rfl
theorem ft10 : mm.FT 10 = some fd10 := by kernel_rfl
theorem ft11 : mm.FT 11 = some fd11 := by kernel_rfl
theorem ft12 : mm.FT 12 = some fd12 := by kernel_rfl
theorem ft13 : mm.FT 13 = some fd13 := by kernel_rfl
theorem ft14 : mm.FT 14 = some fd14 := by kernel_rfl
theorem ft15 : mm.FT 15 = some fd15 := by kernel_rfl
theorem ft16 : mm.FT 16 = some fd16 := by kernel_rfl
theorem ft17 : mm.FT 17 = some fd17 := by kernel_rfl
theorem ft18 : mm.FT 18 = some fd18 := by kernel_rfl
theorem ft19 : mm.FT 19 = some fd19 := by kernel_rfl
theorem ft20 : mm.FT 20 = some fd20 := by kernel_rfl
theorem ft21 : mm.FT 21 = some fd21 := by kernel_rfl
theorem ft22 : mm.FT 22 = some fd22 := by kernel_rfl
theorem ft23 : mm.FT 23 = some fd23 := by kernel_rfl
theorem ft24 : mm.FT 24 = some fd24 := by kernel_rfl
theorem ft25 : mm.FT 25 = some fd25 := by kernel_rfl
theorem ft26 : mm.FT 26 = some fd26 := by kernel_rfl
theorem ft27 : mm.FT 27 = some fd27 := by kernel_rfl
theorem ft28 : mm.FT 28 = some fd28 := by kernel_rfl
theorem ft29 : mm.FT 29 = some fd29 := by kernel_rfl
theorem ft30 : mm.FT 30 = some fd30 := by kernel_rfl
theorem ft31 : mm.FT 31 = some fd31 := by kernel_rfl
theorem ft32 : mm.FT 32 = some fd32 := by kernel_rfl
theorem ft33 : mm.FT 33 = some fd33 := by kernel_rfl
theorem ft34 : mm.FT 34 = some fd34 := by kernel_rfl
theorem ft35 : mm.FT 35 = some fd35 := by kernel_rfl
theorem ft36 : mm.FT 36 = some fd36 := by kernel_rfl
theorem ft37 : mm.FT 37 = some fd37 := by kernel_rfl
theorem ft38 : mm.FT 38 = some fd38 := by kernel_rfl
theorem ft39 : mm.FT 39 = some fd39 := by kernel_rfl
theorem ft40 : mm.FT 40 = some fd40 := by kernel_rfl
theorem ft41 : mm.FT 41 = some fd41 := by kernel_rfl
theorem ft42 : mm.FT 42 = some fd42 := by kernel_rfl
theorem ft43 : mm.FT 43 = some fd43 := by kernel_rfl
theorem ft44 : mm.FT 44 = some fd44 := by kernel_rfl
theorem ft45 : mm.FT 45 = some fd45 := by kernel_rfl
theorem ft46 : mm.FT 46 = some fd46 := by kernel_rfl
theorem ft47 : mm.FT 47 = some fd47 := by kernel_rfl
theorem ft48 : mm.FT 48 = some fd48 := by kernel_rfl
theorem ft49 : mm.FT 49 = some fd49 := by kernel_rfl
theorem ft50 : mm.FT 50 = some fd50 := by kernel_rfl
theorem ft51 : mm.FT 51 = some fd51 := by kernel_rfl
theorem ft52 : mm.FT 52 = some fd52 := by kernel_rfl
theorem ft53 : mm.FT 53 = some fd53 := by kernel_rfl
theorem ft54 : mm.FT 54 = some fd54 := by kernel_rfl
theorem ft55 : mm.FT 55 = some fd55 := by kernel_rfl
theorem ft56 : mm.FT 56 = some fd56 := by kernel_rfl
theorem ft57 : mm.FT 57 = some fd57 := by kernel_rfl
theorem ft58 : mm.FT 58 = some fd58 := by kernel_rfl
theorem ft59 : mm.FT 59 = some fd59 := by kernel_rfl
theorem ft60 : mm.FT 60 = some fd60 := by kernel_rfl
theorem ft61 : mm.FT 61 = some fd61 := by kernel_rfl
end Go.Proofs.Ytjejgnbdlfkenaa.Base
namespace Go.Proofs.Ytjejgnbdlfkenaa.Base
open D
set_option linter.unusedSimpArgs false
set_option linter.unusedVariables false
set_option maxRecDepth 10000

theorem of_Wf {f : Nat} {l : List AV} {s s' : St} {v : AV} (h : Wf mm f l s fun v1 s1 => v1 = v ∧ s1 = s') : mm.L.call f l s = some (v, s') := by
  obtain ⟨v1, s1, h, rfl, rfl⟩ := h; exact h

theorem isNaN_run (a : Int) (s : St) : mm.L.call 42 [.int .u32 a] s = some (.bool false, s) := by
  refine of_Wf (Wf_enter ft42 (sm (by decide)) (by rfl) ?_)
  simp only [fd42, go_sem, Wk_block, Wk_drawnC, reduceCtorEq, Nat.reduceEqDiff, Nat.reduceAdd, Nat.reduceLeDiff, Nat.reduceLT, Nat.reduceMul, Nat.reduceSub, ↓reduceIte, Int.reduceLT, Int.reduceLE, Int.reduceNeg, Int.reduceAdd, Int.reduceEq, Nat.reduceBneDiff, Nat.reduceBEq, Int.reduceToNat, Int.reduceMul, Int.reduceSub, Int.reduceBEq, Int.reduceBNe, Int.cast_ofNat_Int, Int.toNat_natCast_add_one, Nat.add_left_cancel_iff, Nat.left_eq_add, Nat.add_eq_left, Int.toNat_natCast, Nat.add_assoc, Int.ofNat_lt, Int.ofNat_le]

def cmpI (a b : Int) : Int := if a < b then -1 else if b < a then 1 else 0
theorem compare_run (a b : Int) (s : St) : mm.L.call 27 [.int .u32 a, .int .u32 b] s = some (.int .i64 (cmpI a b), s) := by
  refine of_Wf (Wf_enter ft27 (sm (by decide)) (by rfl) ?_)
  simp only [fd27, go_sem, Wk_block, Wk_drawnC, reduceCtorEq, Nat.reduceEqDiff, Nat.reduceAdd, Nat.reduceLeDiff, Nat.reduceLT, Nat.reduceMul, Nat.reduceSub, ↓reduceIte, Int.reduceLT, Int.reduceLE, Int.reduceNeg, Int.reduceAdd, Int.reduceEq, Nat.reduceBneDiff, Nat.reduceBEq, Int.reduceToNat, Int.reduceMul, Int.reduceSub, Int.reduceBEq, Int.reduceBNe, Int.cast_ofNat_Int, Int.toNat_natCast_add_one, Nat.add_left_cancel_iff, Nat.left_eq_add, Nat.add_eq_left, Int.toNat_natCast, Nat.add_assoc, Int.ofNat_lt, Int.ofNat_le, Wl_eq (isNaN_run _ _)]
  refine Wi_split (fun h => ?_) (fun h => ?_)
  · simp only [go_sem, Wk_block, Wk_drawnC, reduceCtorEq, Nat.reduceEqDiff, Nat.reduceAdd, Nat.reduceLeDiff, Nat.reduceLT, Nat.reduceMul, Nat.reduceSub, ↓reduceIte, Int.reduceLT, Int.reduceLE, Int.reduceNeg, Int.reduceAdd, Int.reduceEq, Nat.reduceBneDiff, Nat.reduceBEq, Int.reduceToNat, Int.reduceMul, Int.reduceSub, Int.reduceBEq, Int.reduceBNe, Int.cast_ofNat_Int, Int.toNat_natCast_add_one, Nat.add_left_cancel_iff, Nat.left_eq_add, Nat.add_eq_left, Int.toNat_natCast, Nat.add_assoc, Int.ofNat_lt, Int.ofNat_le, cmpI]
    simp at h; simp [h]
  · simp only [go_sem, Wk_block, Wk_drawnC, reduceCtorEq, Nat.reduceEqDiff, Nat.reduceAdd, Nat.reduceLeDiff, Nat.reduceLT, Nat.reduceMul, Nat.reduceSub, ↓reduceIte, Int.reduceLT, Int.reduceLE, Int.reduceNeg, Int.reduceAdd, Int.reduceEq, Nat.reduceBneDiff, Nat.reduceBEq, Int.reduceToNat, Int.reduceMul, Int.reduceSub, Int.reduceBEq, Int.reduceBNe, Int.cast_ofNat_Int, Int.toNat_natCast_add_one, Nat.add_left_cancel_iff, Nat.left_eq_add, Nat.add_eq_left, Int.toNat_natCast, Nat.add_assoc, Int.ofNat_lt, Int.ofNat_le]
    refine Wi_split (fun h' => ?_) (fun h' => ?_)
    · simp only [go_sem, Wk_block, Wk_drawnC, reduceCtorEq, Nat.reduceEqDiff, Nat.reduceAdd, Nat.reduceLeDiff, Nat.reduceLT, Nat.reduceMul, Nat.reduceSub, ↓reduceIte, Int.reduceLT, Int.reduceLE, Int.reduceNeg, Int.reduceAdd, Int.reduceEq, Nat.reduceBneDiff, Nat.reduceBEq, Int.reduceToNat, Int.reduceMul, Int.reduceSub, Int.reduceBEq, Int.reduceBNe, Int.cast_ofNat_Int, Int.toNat_natCast_add_one, Nat.add_left_cancel_iff, Nat.left_eq_add, Nat.add_eq_left, Int.toNat_natCast, Nat.add_assoc, Int.ofNat_lt, Int.ofNat_le, cmpI]
      simp at h h'; simp; omega
    · simp only [go_sem, Wk_block, Wk_drawnC, reduceCtorEq, Nat.reduceEqDiff, Nat.reduceAdd, Nat.reduceLeDiff, Nat.reduceLT, Nat.reduceMul, Nat.reduceSub, ↓reduceIte, Int.reduceLT, Int.reduceLE, Int.reduceNeg, Int.reduceAdd, Int.reduceEq, Nat.reduceBneDiff, Nat.reduceBEq, Int.reduceToNat, Int.reduceMul, Int.reduceSub, Int.reduceBEq, Int.reduceBNe, Int.cast_ofNat_Int, Int.toNat_natCast_add_one, Nat.add_left_cancel_iff, Nat.left_eq_add, Nat.add_eq_left, Int.toNat_natCast, Nat.add_assoc, Int.ofNat_lt, Int.ofNat_le, cmpI]
      simp at h h'; simp; omega

def orI (a b : Int) : Int := if a = 0 then b else a
theorem or_run (a b : Int) {s : St} {p : Nat} {lo r : Bool} {z : Nat} (hp : s.get p = some (.cells [.int .i64 a, .int .i64 b] lo r z)) : mm.L.call 26 [.slice p 0 2 2 false] s = some (.int .i64 (orI a b), s) := by
  refine of_Wf (Wf_enter ft26 (sm (by decide)) (by rfl) ?_)
  simp only [fd26, go_sem, Wk_block, Wk_drawnC, reduceCtorEq, Nat.reduceEqDiff, Nat.reduceAdd, Nat.reduceLeDiff, Nat.reduceLT, Nat.reduceMul, Nat.reduceSub, ↓reduceIte, Int.reduceLT, Int.reduceLE, Int.reduceNeg, Int.reduceAdd, Int.reduceEq, Nat.reduceBneDiff, Nat.reduceBEq, Int.reduceToNat, Int.reduceMul, Int.reduceSub, Int.reduceBEq, Int.reduceBNe, Int.cast_ofNat_Int, Int.toNat_natCast_add_one, Nat.add_left_cancel_iff, Nat.left_eq_add, Nat.add_eq_left, Int.toNat_natCast, Nat.add_assoc, Int.ofNat_lt, Int.ofNat_le, Wk_loop, idx1, indexA, hp]
  refine Wi_split (fun h => ?_) (fun h => ?_)
  · simp only [go_sem, Wk_block, Wk_drawnC, reduceCtorEq, Nat.reduceEqDiff, Nat.reduceAdd, Nat.reduceLeDiff, Nat.reduceLT, Nat.reduceMul, Nat.reduceSub, ↓reduceIte, Int.reduceLT, Int.reduceLE, Int.reduceNeg, Int.reduceAdd, Int.reduceEq, Nat.reduceBneDiff, Nat.reduceBEq, Int.reduceToNat, Int.reduceMul, Int.reduceSub, Int.reduceBEq, Int.reduceBNe, Int.cast_ofNat_Int, Int.toNat_natCast_add_one, Nat.add_left_cancel_iff, Nat.left_eq_add, Nat.add_eq_left, Int.toNat_natCast, Nat.add_assoc, Int.ofNat_lt, Int.ofNat_le, orI]
    simp at h; simp [h]
  · simp only [go_sem, Wk_block, Wk_drawnC, reduceCtorEq, Nat.reduceEqDiff, Nat.reduceAdd, Nat.reduceLeDiff, Nat.reduceLT, Nat.reduceMul, Nat.reduceSub, ↓reduceIte, Int.reduceLT, Int.reduceLE, Int.reduceNeg, Int.reduceAdd, Int.reduceEq, Nat.reduceBneDiff, Nat.reduceBEq, Int.reduceToNat, Int.reduceMul, Int.reduceSub, Int.reduceBEq, Int.reduceBNe, Int.cast_ofNat_Int, Int.toNat_natCast_add_one, Nat.add_left_cancel_iff, Nat.left_eq_add, Nat.add_eq_left, Int.toNat_natCast, Nat.add_assoc, Int.ofNat_lt, Int.ofNat_le, Wk_loop, idx1, indexA, hp]
    simp at h; subst h
    rw [show IntKind.i64.wrap 1 = 1 by rfl]
    simp only [go_sem, Wk_block, Wk_drawnC, reduceCtorEq, Nat.reduceEqDiff, Nat.reduceAdd, Nat.reduceLeDiff, Nat.reduceLT, Nat.reduceMul, Nat.reduceSub, ↓reduceIte, Int.reduceLT, Int.reduceLE, Int.reduceNeg, Int.reduceAdd, Int.reduceEq, Nat.reduceBneDiff, Nat.reduceBEq, Int.reduceToNat, Int.reduceMul, Int.reduceSub, Int.reduceBEq, Int.reduceBNe, Int.cast_ofNat_Int, Int.toNat_natCast_add_one, Nat.add_left_cancel_iff, Nat.left_eq_add, Nat.add_eq_left, Int.toNat_natCast, Nat.add_assoc, Int.ofNat_lt, Int.ofNat_le, Wk_loop, idx1, indexA, hp]
    refine Wi_split (fun h => ?_) (fun h => ?_)
    · simp only [go_sem, Wk_block, Wk_drawnC, reduceCtorEq, Nat.reduceEqDiff, Nat.reduceAdd, Nat.reduceLeDiff, Nat.reduceLT, Nat.reduceMul, Nat.reduceSub, ↓reduceIte, Int.reduceLT, Int.reduceLE, Int.reduceNeg, Int.reduceAdd, Int.reduceEq, Nat.reduceBneDiff, Nat.reduceBEq, Int.reduceToNat, Int.reduceMul, Int.reduceSub, Int.reduceBEq, Int.reduceBNe, Int.cast_ofNat_Int, Int.toNat_natCast_add_one, Nat.add_left_cancel_iff, Nat.left_eq_add, Nat.add_eq_left, Int.toNat_natCast, Nat.add_assoc, Int.ofNat_lt, Int.ofNat_le, orI]
    · simp only [go_sem, Wk_block, Wk_drawnC, reduceCtorEq, Nat.reduceEqDiff, Nat.reduceAdd, Nat.reduceLeDiff, Nat.reduceLT, Nat.reduceMul, Nat.reduceSub, ↓reduceIte, Int.reduceLT, Int.reduceLE, Int.reduceNeg, Int.reduceAdd, Int.reduceEq, Nat.reduceBneDiff, Nat.reduceBEq, Int.reduceToNat, Int.reduceMul, Int.reduceSub, Int.reduceBEq, Int.reduceBNe, Int.cast_ofNat_Int, Int.toNat_natCast_add_one, Nat.add_left_cancel_iff, Nat.left_eq_add, Nat.add_eq_left, Int.toNat_natCast, Nat.add_assoc, Int.ofNat_lt, Int.ofNat_le, Wk_loop, idx1, indexA, hp]
      rw [show IntKind.i64.wrap 2 = 2 by rfl]
      simp at h; subst h
      simp only [go_sem, Wk_block, Wk_drawnC, reduceCtorEq, Nat.reduceEqDiff, Nat.reduceAdd, Nat.reduceLeDiff, Nat.reduceLT, Nat.reduceMul, Nat.reduceSub, ↓reduceIte, Int.reduceLT, Int.reduceLE, Int.reduceNeg, Int.reduceAdd, Int.reduceEq, Nat.reduceBneDiff, Nat.reduceBEq, Int.reduceToNat, Int.reduceMul, Int.reduceSub, Int.reduceBEq, Int.reduceBNe, Int.cast_ofNat_Int, Int.toNat_natCast_add_one, Nat.add_left_cancel_iff, Nat.left_eq_add, Nat.add_eq_left, Int.toNat_natCast, Nat.add_assoc, Int.ofNat_lt, Int.ofNat_le, Wk_loop, idx1, indexA, hp, orI]

/-- A label. -/
@[ext] structure Lb where
  e : Int
  q : Int
  deriving DecidableEq
def Lb.enc (l : Lb) : List AV := [.int .u32 l.e, .int .u32 l.q]
def Lb.lt (a b : Lb) : Prop := a.e < b.e ∨ a.e = b.e ∧ a.q < b.q
instance (a b : Lb) : Decidable (a.lt b) := by unfold Lb.lt; infer_instance
def Lb.cmp (a b : Lb) : Int := if a.lt b then -1 else if b.lt a then 1 else 0

theorem cmp_or (a b : Lb) : orI (cmpI a.e b.e) (cmpI a.q b.q) = a.cmp b := by
  unfold orI cmpI Lb.cmp Lb.lt
  repeat' split
  all_goals omega

theorem Compare_run (a b : Lb) (s : St) : Wf mm 17 [.agg [.int .u32 a.e, .int .u32 a.q], .agg [.int .u32 b.e, .int .u32 b.q]] s fun v s' => v = .int .i64 (a.cmp b) ∧ Fr s s' := by
  refine Wf_enter ft17 (sm (by decide)) (by rfl) ?_
  simp only [fd17, go_sem, Wk_block, Wk_drawnC, reduceCtorEq, Nat.reduceEqDiff, Nat.reduceAdd, Nat.reduceLeDiff, Nat.reduceLT, Nat.reduceMul, Nat.reduceSub, ↓reduceIte, Int.reduceLT, Int.reduceLE, Int.reduceNeg, Int.reduceAdd, Int.reduceEq, Nat.reduceBneDiff, Nat.reduceBEq, Int.reduceToNat, Int.reduceMul, Int.reduceSub, Int.reduceBEq, Int.reduceBNe, Int.cast_ofNat_Int, Int.toNat_natCast_add_one, Nat.add_left_cancel_iff, Nat.left_eq_add, Nat.add_eq_left, Int.toNat_natCast, Nat.add_assoc, Int.ofNat_lt, Int.ofNat_le, Wl_eq (compare_run _ _ _)]
  rw [Wl_eq (or_run (cmpI a.e b.e) (cmpI a.q b.q) (by simp only [go_sem, Wk_block, Wk_drawnC, reduceCtorEq, Nat.reduceEqDiff, Nat.reduceAdd, Nat.reduceLeDiff, Nat.reduceLT, Nat.reduceMul, Nat.reduceSub, ↓reduceIte, Int.reduceLT, Int.reduceLE, Int.reduceNeg, Int.reduceAdd, Int.reduceEq, Nat.reduceBneDiff, Nat.reduceBEq, Int.reduceToNat, Int.reduceMul, Int.reduceSub, Int.reduceBEq, Int.reduceBNe, Int.cast_ofNat_Int, Int.toNat_natCast_add_one, Nat.add_left_cancel_iff, Nat.left_eq_add, Nat.add_eq_left, Int.toNat_natCast, Nat.add_assoc, Int.ofNat_lt, Int.ofNat_le]; rfl))]
  simp only [go_sem, Wk_block, Wk_drawnC, reduceCtorEq, Nat.reduceEqDiff, Nat.reduceAdd, Nat.reduceLeDiff, Nat.reduceLT, Nat.reduceMul, Nat.reduceSub, ↓reduceIte, Int.reduceLT, Int.reduceLE, Int.reduceNeg, Int.reduceAdd, Int.reduceEq, Nat.reduceBneDiff, Nat.reduceBEq, Int.reduceToNat, Int.reduceMul, Int.reduceSub, Int.reduceBEq, Int.reduceBNe, Int.cast_ofNat_Int, Int.toNat_natCast_add_one, Nat.add_left_cancel_iff, Nat.left_eq_add, Nat.add_eq_left, Int.toNat_natCast, Nat.add_assoc, Int.ofNat_lt, Int.ofNat_le, cmp_or]
  exact (((Fr.refl s).new _).new _).new _

theorem cmp_le {a b : Lb} : (a.cmp b ≤ 0) ↔ ¬ b.lt a := by
  unfold Lb.cmp Lb.lt
  repeat' split
  all_goals omega
theorem cmp_ge {a b : Lb} : (0 ≤ a.cmp b) ↔ ¬ a.lt b := by
  unfold Lb.cmp Lb.lt
  repeat' split
  all_goals omega
theorem cmp_lt0 {a b : Lb} : (a.cmp b < 0) ↔ a.lt b := by
  unfold Lb.cmp Lb.lt
  repeat' split
  all_goals omega
end Go.Proofs.Ytjejgnbdlfkenaa.Base
namespace Go.Proofs.Ytjejgnbdlfkenaa.D
noncomputable section
open Go.RowKit
variable {P : Program}

def isCells (w : World) (b : Nat) : Bool :=
  match w.heap[b]? with
  | some (.cells ..) => true
  | _ => false

/-- A value of the memory that a law finds; what isn't read stays as it is. -/
def absA (w : World) (v : Value) : AV :=
  match v with
  | .bool b => .bool b
  | .int k n => .int k n
  | .string s => .str s
  | .pointer none => .nilPtr
  | .pointer (some ⟨b, o, none⟩) => if isCells w b then .ptr b o else .raw (.pointer (some ⟨b, o, none⟩))
  | .slice none 0 0 => .nilSlice
  | .slice (some ⟨b, o, none⟩) len cap => if isCells w b && cap != 0 then .slice b o len cap false else .raw (.slice (some ⟨b, o, none⟩) len cap)
  | v => .raw v

def mu0 (w : World) : Place := fun b => if isCells w b then some (b, 0) else none

theorem mu0_some {w : World} {b : Nat} (h : isCells w b = true) : mu0 w b = some (b, 0) := if_pos h

theorem conc_absA (w : World) (v : Value) : conc (mu0 w) (absA w v) = some v := by
  unfold absA
  split
  · rfl
  · rfl
  · rfl
  · rfl
  · split
    · rename_i h; simp [conc, mu0_some h]
    · rfl
  · rfl
  · split
    · rename_i h; simp [conc, mu0_some (Bool.and_eq_true _ _ ▸ h).1]
    · rfl
  · rfl

theorem concs_absA (w : World) : ∀ l : List Value, concs (mu0 w) (l.map (absA w)) = some l
  | [] => rfl
  | v :: r => by simp [concs, conc_absA, concs_absA w r]

def st0 (w : World) : St where
  heap := .lf
  base b := match w.heap[b]? with
    | some (.cells c _ _) => some (.cells (c.toList.map (absA w)) false true 0)
    | _ => none
  next := w.heap.size

theorem get_st0 (w : World) (b : Nat) : (st0 w).get b = match w.heap[b]? with
    | some (.cells c _ _) => some (.cells (c.toList.map (absA w)) false true 0)
    | _ => none := by
  unfold St.get
  show (match (Tr.lf : Tr (Option AObj)).get b with | some o => o | none => (st0 w).base b) = _
  rw [Tr.get_lf]
  rfl

theorem get_st0_some {w : World} {b : Nat} {o : AObj} (h : (st0 w).get b = some o) : ∃ c e fz, w.heap[b]? = some (.cells c e fz) ∧ o = .cells (c.toList.map (absA w)) false true 0 ∧ isCells w b = true := by
  rw [get_st0] at h
  split at h
  · rename_i c e fz hc
    cases h
    exact ⟨c, e, fz, hc, rfl, by unfold isCells; rw [hc]⟩
  · cases h

theorem isCells_lt {w : World} {b : Nat} (h : isCells w b = true) : b < w.heap.size := by
  unfold isCells at h
  split at h
  · rename_i hc
    exact (Array.getElem?_eq_some_iff.1 hc).1
  · cases h

theorem hr0 (R : Nat) (w : World) : HR P R (mu0 w) (st0 w) w where
  obj b o h := by
    obtain ⟨c, e, fz, h1, rfl, h3⟩ := get_st0_some h
    exact ⟨(b, 0), mu0_some h3, c, e, fz, c.toList, [], h1, concs_absA w _, by simp, by simp, fun _ => rfl, fun h => by cases h⟩
  inj b c o o' p q h1 h2 hp hq e := by
    obtain ⟨_, _, _, _, _, h3⟩ := get_st0_some h1
    obtain ⟨_, _, _, _, _, h4⟩ := get_st0_some h2
    rw [mu0_some h3] at hp; cases hp
    rw [mu0_some h4] at hq; cases hq
    exact e
  lt b p h := by
    unfold mu0 at h
    split at h
    · rename_i hb
      cases h
      exact ⟨isCells_lt hb, .inl (isCells_lt hb)⟩
    · cases h
  dom b o h := by
    obtain ⟨_, _, _, _, _, h3⟩ := get_st0_some h
    exact isCells_lt h3

theorem below0 {w w' : World} {ν : Place} {s' : St} (h : Mv (mu0 w) (st0 w) w ν s' w') : Below w.heap.size w w' where
  os := h.os
  tape := h.tape.eq
  output := h.output
  size := h.size
  block k hk := by
    by_cases hc : isCells w k = true
    · have : ∃ c, (st0 w).get k = some (.cells c false true 0) := by
        have hc' := hc
        unfold isCells at hc'
        split at hc'
        · rename_i hx; rw [get_st0, hx]; exact ⟨_, rfl⟩
        · cases hc'
      obtain ⟨c, hg⟩ := this
      exact (h.ro k c false 0 (k, 0) hg (mu0_some hc)).2
    · refine h.frame k hk fun b p _ hb => ?_
      unfold mu0 at hb
      split at hb
      · rename_i hb'
        cases hb
        intro e
        exact hc (by have : b = k := e; rw [← this]; exact hb')
      · cases hb

/-- A run of the abstract machine over what a law finds is a run of the law. -/
theorem calls_of_W {M : Mach} (hm : P.follows .mixedOrders = true) (hFT : FnsOk P M.FT) (hSM : SumsOk P M.SM) (hSN : SumsNext M.SM) {f : Nat} {args : List Value} {w : World}
    (h : Wf M f (args.map (fun v => match v with | .agg cs => .agg (cs.toList.map (absA w)) | v => absA w v)) (st0 w) fun v _ => v = .bool true) :
    Calls P f args.toArray w fun e w' => e = .returned (.bool true) ∧ Below w.heap.size w w' := by
  obtain ⟨v, s', hx, rfl⟩ := h
  obtain ⟨n, hn⟩ := (sup_lim M.FT M.SM).call _ _ _ _ hx
  have hc : ∀ l : List Value, concs (mu0 w) (l.map (fun v => match v with | .agg cs => .agg (cs.toList.map (absA w)) | v => absA w v)) = some l := by
    intro l
    induction l with
    | nil => rfl
    | cons v r ih =>
      simp only [List.map_cons, concs, ih, Option.map_some]
      cases v with
      | agg cs => simp [conc, concs_absA]
      | _ => simp only [conc_absA, Option.bind_some]
  have := ((eng_sound hm hFT hSM hSN n).call hn (Nat.le_refl _) (hr0 s'.next w) (hc args)).2 0
  refine callsIn_wide.1 (this.mono ?_)
  intro e w' hr
  cases e with
  | returned c =>
    obtain ⟨ν, h1, _, h3⟩ := hr
    simp only [conc, Option.some.injEq] at h1
    subst h1
    exact ⟨rfl, below0 h3⟩
  | panicked _ => exact hr.elim
  | outgrown => exact hr.elim

/-! ### What arguments hold -/

inductive Ty where
  | bool
  | int (k : IntKind)
  | str
  | slice (e : Ty)
  | many (l : List Ty)

mutual
def Ty.size : Ty → Nat
  | .many l => sizes l
  | _ => 1
def sizes : List Ty → Nat
  | [] => 0
  | t :: r => t.size + sizes r
end

mutual
/-- Cells that hold a value of a type. -/
def Ok (s : St) : Ty → List AV → Prop
  | .bool, l => ∃ b, l = [.bool b]
  | .int k, l => ∃ n, l = [.int k n] ∧ k.min ≤ n ∧ n ≤ k.max
  | .str, l => ∃ x : ByteArray, l = [.str x] ∧ x.size ≤ maxLen
  | .slice e, l => l = [.nilSlice] ∨ (∃ a, l = [.raw (.slice a 0 0)]) ∨ ∃ b o len cap vs, l = [.slice b o len cap false] ∧ len ≤ cap ∧ cap ≤ maxLen ∧ s.get b = some (.cells vs false true 0) ∧ b < s.next ∧
      (0 < cap ∧ o + cap * e.size ≤ vs.length) ∧ ∀ i, i < cap → Ok s e ((vs.drop (o + i * e.size)).take e.size)
  | .many ts, l => OkAll s ts l
def OkAll (s : St) : List Ty → List AV → Prop
  | [], l => l = []
  | t :: ts, l => ∃ a b, l = a ++ b ∧ Ok s t a ∧ OkAll s ts b
end

section
variable (P)
def tyFs (tf : TypeId → Option Ty) : List Field → Nat → Option (List Ty)
  | [], _ => some []
  | f :: r, off => match tf f.type with
    | none => none
    | some T => if f.offset == off && T.size == P.cellsOf f.type then match tyFs tf r (off + T.size) with
      | some l => some (T :: l)
      | none => none
    else none

def tyOf : Nat → TypeId → Option Ty
  | 0, _ => none
  | d + 1, t => match P.underlying t with
    | some .bool => some .bool
    | some (.int k) => some (.int k)
    | some .string => some .str
    | some (.slice e) => match tyOf d e with
      | some T => if T.size == P.cellsOf e && Nat.ble 1 T.size then some (.slice T) else none
      | none => none
    | some (.struct fs) => match tyFs P (tyOf d) fs.toList 0 with
      | some l => if sizes l == P.cellsOf t then some (.many l) else none
      | none => none
    | some (.array n e) => match tyOf d e with
      | some T => if T.size == P.cellsOf e && n * T.size == P.cellsOf t then some (.many (List.replicate n T)) else none
      | none => none
    | _ => none
end

theorem mapM_some {α β : Type} {f : α → Option β} : ∀ {l : List α} {r : List β}, l.mapM f = some r → ∀ x ∈ l, ∃ y, f x = some y
  | [], _, _, x, hx => by cases hx
  | a :: l, r, h, x, hx => by
    simp only [List.mapM_cons, Option.bind_eq_bind, Option.bind_eq_some_iff] at h
    obtain ⟨y, h1, z, h2, _⟩ := h
    cases hx with
    | head => exact ⟨y, h1⟩
    | tail _ hx => exact mapM_some h2 x hx

theorem mapM_get {α β : Type} {f : α → Option β} : ∀ {l : List α} {r : List β}, l.mapM f = some r → r.length = l.length ∧ ∀ i (hi : i < l.length), ∃ y, f l[i] = some y ∧ r[i]? = some y
  | [], r, h => by
    simp only [List.mapM_nil, Option.pure_def, Option.some.injEq] at h
    subst h
    exact ⟨rfl, fun i hi => by simp at hi⟩
  | a :: l, r, h => by
    simp only [List.mapM_cons, Option.bind_eq_bind, Option.bind_eq_some_iff, Option.pure_def, Option.some.injEq] at h
    obtain ⟨y, h1, z, h2, rfl⟩ := h
    obtain ⟨g1, g2⟩ := mapM_get h2
    refine ⟨by simp [g1], fun i hi => ?_⟩
    cases i with
    | zero => exact ⟨y, h1, rfl⟩
    | succ i => obtain ⟨u, u1, u2⟩ := g2 i (by simpa using hi); exact ⟨u, by simpa using u1, by simpa using u2⟩

theorem cell_read {w : World} {b o : Nat} {sp : Option Nat} {y : Value} (hy : w.cell? ⟨b, o, sp⟩ = some y) : sp = none ∧ ∃ c e fz, w.heap[b]? = some (.cells c e fz) ∧ c[o]? = some y := by
  unfold World.cell? at hy
  split at hy
  · rename_i c e fz hc
    cases sp with
    | none => exact ⟨rfl, c, e, fz, hc, by simpa using hy⟩
    | some x => simp at hy
  · cases hy

/-- Cells that are read from an address on. -/
theorem cells_read {w : World} {b o n : Nat} {sp : Option Nat} {cs : List Value} (hn : 0 < n) (h : w.cells? 0 ⟨b, o, sp⟩ n = some cs) :
    sp = none ∧ ∃ c e fz, w.heap[b]? = some (.cells c e fz) ∧ o + n ≤ c.size ∧ cs = (c.toList.drop o).take n := by
  unfold World.cells? at h
  rw [if_pos (Nat.zero_le _)] at h
  obtain ⟨g1, g2⟩ := mapM_get h
  obtain ⟨y0, hy0, _⟩ := g2 0 (by simpa using hn)
  obtain ⟨rfl, c, e, fz, hc, _⟩ := cell_read (by simpa [Addr.add] using hy0)
  have cellOf : ∀ i, i < n → ∃ y, c[o + i]? = some y ∧ cs[i]? = some y := by
    intro i hi
    obtain ⟨y, h1, h2⟩ := g2 i (by simpa using hi)
    have h1' : w.cell? ⟨b, o + i, none⟩ = some y := by
      rw [List.getElem_range] at h1
      unfold Addr.add at h1
      split at h1
      · rename_i hz; subst hz; exact h1
      · exact h1
    obtain ⟨_, c', _, _, hc', hcc⟩ := cell_read h1'
    rw [hc] at hc'; cases hc'
    exact ⟨y, hcc, h2⟩
  refine ⟨rfl, c, e, fz, hc, ?_, ?_⟩
  · obtain ⟨y, hcc, _⟩ := cellOf (n - 1) (by omega)
    have := (Array.getElem?_eq_some_iff.1 hcc).1
    omega
  · apply List.ext_getElem?
    intro i
    by_cases hi : i < n
    · obtain ⟨y, hcc, hy'⟩ := cellOf i hi
      rw [hy', List.getElem?_take, if_pos hi, List.getElem?_drop]
      simpa using hcc.symm
    · rw [List.getElem?_take, if_neg hi]
      exact List.getElem?_eq_none (by rw [g1]; simp; omega)

theorem sizes_replicate (n : Nat) (T : Ty) : sizes (List.replicate n T) = n * T.size := by
  induction n with
  | zero => simp [sizes]
  | succ n ih => simp [List.replicate_succ, sizes, ih, Nat.succ_mul]; omega

section
variable {H : Type} {enc : TypeId × Value → H} {w : World}

/-- What reading a value of a type has shown. -/
def Shown (P : Program) (enc : TypeId × Value → H) (w : World) (d : Nat) : Prop :=
  ∀ (t : TypeId) (T : Ty) (fuel : Nat) (cs : List Value) (r : DataW H × List MemPlace), tyOf P d t = some T → DataW.trod enc P w 0 (fun _ => true) true fuel t cs = some r → cs.length = T.size ∧ Ok (st0 w) T (cs.map (absA w))

theorem fields_ok {d fuel : Nat} (ih : Shown P enc w d) {cs : List Value} : ∀ {fs : List Field} {off : Nat} {l : List Ty}, tyFs P (tyOf P d) fs off = some l →
    (∀ f ∈ fs, ∃ y, DataW.trod enc P w 0 (fun _ => true) true fuel f.type ((cs.drop f.offset).take (P.cellsOf f.type)) = some y) → off + sizes l = cs.length → OkAll (st0 w) l ((cs.drop off).map (absA w))
  | [], off, l, h, _, hs => by
    simp only [tyFs, Option.some.injEq] at h
    subst h
    simp only [sizes, Nat.add_zero] at hs
    simp [OkAll, hs]
  | f :: fs, off, l, h, ha, hs => by
    simp only [tyFs] at h
    split at h
    case h_1 => cases h
    rename_i T hT
    split at h
    case isFalse => cases h
    rename_i hc
    simp only [Bool.and_eq_true, beq_iff_eq] at hc
    split at h
    case h_2 => cases h
    rename_i l' hl'
    cases h
    obtain ⟨y, hy⟩ := ha f (List.mem_cons_self ..)
    obtain ⟨h1, h2⟩ := ih _ _ _ _ _ hT hy
    simp only [sizes] at hs
    have h3 := fields_ok ih hl' (fun g hg => ha g (List.mem_cons_of_mem _ hg)) (by omega)
    rw [hc.1, ← hc.2] at h2
    refine ⟨_, _, ?_, h2, h3⟩
    rw [← List.map_append]
    congr 1
    rw [← List.drop_drop, List.take_append_drop]

theorem elems_ok {d fuel n e : Nat} (ih : Shown P enc w d) {T : Ty} (hT : tyOf P d e = some T) (hz : T.size = P.cellsOf e) {cs : List Value}
    (ha : ∀ i, i < n → ∃ y, DataW.trod enc P w 0 (fun _ => true) true fuel e ((cs.drop (i * P.cellsOf e)).take (P.cellsOf e)) = some y) (hs : n * T.size = cs.length) :
    ∀ m k, k + m = n → OkAll (st0 w) (List.replicate m T) ((cs.drop (k * T.size)).map (absA w))
  | 0, k, hk => by
    have : k = n := by omega
    subst this
    simp [OkAll, hs]
  | m + 1, k, hk => by
    obtain ⟨y, hy⟩ := ha k (by omega)
    obtain ⟨h1, h2⟩ := ih _ _ _ _ _ hT hy
    have h3 := elems_ok ih hT hz ha hs m (k + 1) (by omega)
    rw [← hz] at h2
    refine ⟨_, _, ?_, h2, h3⟩
    rw [← List.map_append]
    congr 1
    rw [Nat.succ_mul, ← List.drop_drop, List.take_append_drop]

theorem shown : ∀ d, Shown P enc w d
  | 0 => fun t T fuel cs r hT _ => by cases hT
  | d + 1 => by
    intro t T fuel cs r hT hr
    have ih := shown d
    cases fuel with
    | zero => simp [DataW.trod] at hr
    | succ fuel =>
      simp only [tyOf] at hT
      split at hT
      · rename_i hu
        cases hT
        unfold DataW.trod at hr
        rw [hu] at hr
        split at hr <;> simp_all [Ty.size, Ok, absA]
      · rename_i k hu
        cases hT
        unfold DataW.trod at hr
        rw [hu] at hr
        split at hr <;> simp_all [Ty.size, Ok, absA, Lit.wf]
      · rename_i hu
        cases hT
        unfold DataW.trod at hr
        rw [hu] at hr
        split at hr <;> simp_all [Ty.size, Ok, absA]
      · rename_i e hu
        split at hT
        case h_2 => cases hT
        rename_i E hE
        split at hT
        case isFalse => cases hT
        rename_i hc
        simp only [Bool.and_eq_true, beq_iff_eq] at hc
        obtain ⟨hc1, hc2⟩ := hc
        have hc3 : 1 ≤ E.size := Nat.le_of_ble_eq_true hc2
        cases hT
        unfold DataW.trod at hr
        rw [hu] at hr
        split at hr
        all_goals try (rename_i h _; cases h; done)
        all_goals try (rename_i h; cases h; done)
        all_goals try (cases hr; done)
        · exact ⟨rfl, .inl rfl⟩
        · rename_i e' a len cap he
          cases he
          dsimp only at hr
          split at hr
          case isFalse => cases hr
          rename_i hlc
          simp only [Option.bind_eq_some_iff, Option.map_eq_some_iff, if_true] at hr
          obtain ⟨elems, hel, rest, hre, _⟩ := hr
          have hat : ∀ i, i < cap → ∃ cs', w.cells? 0 (a.add (i * P.cellsOf e)) (P.cellsOf e) = some cs' ∧ ∃ y, DataW.trod enc P w 0 (fun _ => true) true fuel e cs' = some y := by
            intro i hi
            by_cases hil : i < len
            · obtain ⟨y, hy⟩ := mapM_some hel i (by simpa using hil)
              simp only [Option.bind_eq_some_iff] at hy
              obtain ⟨cs', h1, h2⟩ := hy
              exact ⟨cs', h1, y, h2⟩
            · obtain ⟨y, hy⟩ := mapM_some hre (i - len) (by simp; omega)
              simp only [Option.bind_eq_some_iff] at hy
              obtain ⟨cs', h1, h2⟩ := hy
              rw [show len + (i - len) = i by omega] at h1
              exact ⟨cs', h1, y, h2⟩
          refine ⟨rfl, ?_⟩
          obtain ⟨b, o, sp⟩ := a
          by_cases hcap : cap = 0
          · subst hcap
            have : len = 0 := by omega
            subst this
            cases sp with
            | some x => exact .inr (.inl ⟨_, rfl⟩)
            | none => exact .inr (.inl ⟨some ⟨b, o, none⟩, by simp [absA]⟩)
          · obtain ⟨cs0, h0, _⟩ := hat 0 (by omega)
            rw [Nat.zero_mul] at h0
            obtain ⟨rfl, c, el, fz, hx, _, _⟩ := cells_read (by omega) (show w.cells? 0 ⟨b, o, sp⟩ (P.cellsOf e) = some cs0 from h0)
            have hb : isCells w b = true := by unfold isCells; rw [hx]
            have row : ∀ i, i < cap → o + i * E.size + E.size ≤ c.size ∧ Ok (st0 w) E ((((c.toList.map (absA w)).drop (o + i * E.size)).take E.size)) := by
              intro i hi
              obtain ⟨cs', h1, y, h2⟩ := hat i hi
              have e1 : (⟨b, o, none⟩ : Addr).add (i * P.cellsOf e) = ⟨b, o + i * P.cellsOf e, none⟩ := by
                unfold Addr.add
                split
                · rename_i hz; rw [hz]; rfl
                · rfl
              rw [e1] at h1
              obtain ⟨_, c', _, _, hx', hle, rfl⟩ := cells_read (by omega) h1
              rw [hx] at hx'; cases hx'
              obtain ⟨_, g2⟩ := ih _ _ _ _ _ hE h2
              rw [← hc1] at hle g2
              refine ⟨hle, ?_⟩
              rw [List.map_take, List.map_drop] at g2
              exact g2
            refine .inr (.inr ⟨b, o, len, cap, c.toList.map (absA w), by simp [absA, hb, hcap], hlc.2.1, hlc.2.2, by rw [get_st0, hx], isCells_lt hb, ⟨by omega, ?_⟩, fun i hi => (row i hi).2⟩)
            have := (row (cap - 1) (by omega)).1
            have hm : cap * E.size = (cap - 1) * E.size + E.size := by
              rw [← Nat.succ_mul]; congr 1; omega
            simp; omega
      · rename_i fs hu
        split at hT
        case h_2 => cases hT
        rename_i l hl
        split at hT
        case isFalse => cases hT
        rename_i hc
        simp only [beq_iff_eq] at hc
        cases hT
        unfold DataW.trod at hr
        rw [hu] at hr
        split at hr
        all_goals try (rename_i h _; cases h; done)
        all_goals try (rename_i h; cases h; done)
        all_goals try (cases hr; done)
        all_goals try (exact (‹∀ fs' : Array Field, some (TypeDesc.struct fs) = some (TypeDesc.struct fs') → False› fs rfl).elim)
        rename_i fs' _ he
        cases he
        split at hr
        case isFalse => cases hr
        rename_i hlen
        simp only [Option.map_eq_some_iff] at hr
        obtain ⟨xs, hxs, _⟩ := hr
        refine ⟨by rw [hlen, ← hc]; rfl, ?_⟩
        have := fields_ok ih hl (fun f hf => mapM_some hxs f hf) (by omega)
        simpa [Ok] using this
      · rename_i n e hu
        split at hT
        case h_2 => cases hT
        rename_i E hE
        split at hT
        case isFalse => cases hT
        rename_i hc
        simp only [Bool.and_eq_true, beq_iff_eq] at hc
        cases hT
        unfold DataW.trod at hr
        rw [hu] at hr
        split at hr
        all_goals try (rename_i h _; cases h; done)
        all_goals try (rename_i h; cases h; done)
        all_goals try (cases hr; done)
        all_goals try (exact (‹∀ (n' : Nat) (e' : TypeId), some (TypeDesc.array n e) = some (TypeDesc.array n' e') → False› n e rfl).elim)
        rename_i n' e' _ he
        cases he
        split at hr
        case isFalse => cases hr
        rename_i hlen
        simp only [Option.map_eq_some_iff] at hr
        obtain ⟨xs, hxs, _⟩ := hr
        refine ⟨by rw [hlen, ← hc.2]; simp [Ty.size, sizes_replicate], ?_⟩
        have := elems_ok ih hE hc.1 (fun i hi => mapM_some hxs i (by simpa using hi)) (by rw [hlen, hc.2]) n 0 (by omega)
        simpa [Ok] using this
      · cases hT
end
end
end Go.Proofs.Ytjejgnbdlfkenaa.D
namespace Go.Proofs.Ytjejgnbdlfkenaa.D
noncomputable section
open Go.RowKit
variable {P : Program} {H : Type} {enc : TypeId × Value → H} {W W' : World}

def carries (P : Program) (ts : List TypeId) : Bool := ts.all fun t => P.readableRec t && decide (t < P.types.size)

theorem trodAll_stays (hl : laidOutB P = true) (hb : Below W.heap.size W W') {sp : Nat → Bool} : ∀ {ts : List TypeId} {vs : List Value} {ds : List (DataW H)} {ps : List MemPlace}, carries P ts = true → DataW.TrodAll enc P W 0 (fun _ => true) true ts vs ds ps →
    (∀ x ∈ ps, x.block < W.heap.size) → (∀ x ∈ ps, sp x.block = true) → DataW.TrodAll enc P W' 0 sp true ts vs ds ps
  | [], [], [], ps, _, h, _, _ => h
  | t :: ts, v :: vs, d :: ds, ps, hc, h, hlt, hsp => by
    obtain ⟨p, q, h1, h2, rfl⟩ := h
    simp only [carries, List.all_cons, Bool.and_eq_true, decide_eq_true_eq] at hc
    refine ⟨p, q, ?_, trodAll_stays hl hb (by simpa [carries] using hc.2) h2 (fun x hx => hlt x (List.mem_append_right _ hx)) (fun x hx => hsp x (List.mem_append_right _ hx)), rfl⟩
    exact WideElems.Trod_stays hl hc.1.1 hc.1.2 h1 (fun x hx => hb.same (hlt x (List.mem_append_left _ hx))) (fun x hx => hsp x (List.mem_append_left _ hx))
  | [], _ :: _, _, _, _, h, _, _ => h.elim
  | [], [], _ :: _, _, _, h, _, _ => h.elim
  | _ :: _, [], _, _, _, h, _, _ => h.elim
  | _ :: _, _ :: _, [], _, _, h, _, _ => h.elim

/-- An argument, as the abstract machine's. -/
def absArg (w : World) (v : Value) : AV :=
  match v with
  | .agg cs => .agg (cs.toList.map (absA w))
  | v => absA w v

/-- What an argument of a type holds. -/
def ArgOk (s : St) : Ty → AV → Prop
  | .many ts, a => ∃ l, a = .agg l ∧ OkAll s ts l
  | T, a => Ok s T [a]

def ArgsOk (s : St) : List Ty → List AV → Prop
  | [], [] => True
  | T :: Ts, a :: asg => ArgOk s T a ∧ ArgsOk s Ts asg
  | _, _ => False

def tysOf (P : Program) (d : Nat) : List TypeId → Option (List Ty)
  | [] => some []
  | t :: ts => match tyOf P d t with
    | none => none
    | some T => match tysOf P d ts with
      | none => none
      | some Ts => some (T :: Ts)

theorem cells_not_agg {v : Value} (h : ∀ cs, v ≠ .agg cs) : v.cells.toList = [v] := by
  cases v <;> first | rfl | exact (h _ rfl).elim

theorem absArg_not_agg {w : World} {v : Value} (h : ∀ cs, v ≠ .agg cs) : absArg w v = absA w v := by
  cases v <;> first | rfl | exact (h _ rfl).elim

theorem cell_not_agg {P : Program} {w : World} {r : Reach} {base : Nat} {t : TypeId} {cs : Array Value} : ¬ Cell.okWide P w r base t (.agg cs) := by
  intro h
  unfold Cell.okWide Cell.ok at h
  repeat' split at h
  all_goals try exact h
  all_goals simp_all

theorem arg_ok {base : Nat} {d : Nat} {t : TypeId} {T : Ty} (hT : tyOf P d t = some T) {v : Value} {x : DataW H} {ps : List MemPlace} (h : DataW.Trod enc P W 0 (fun _ => true) true t v x ps) (ho : Value.okWide P W .any base t v) : ArgOk (st0 W) T (absArg W v) := by
  obtain ⟨fuel, hf⟩ := h
  obtain ⟨_, h2⟩ := shown d t T fuel _ _ hT hf
  have scalar : (∀ l, T ≠ .many l) → ArgOk (st0 W) T (absArg W v) := by
    intro hne
    have hna : ∀ cs, v ≠ .agg cs := by
      intro cs e
      subst e
      unfold Value.okWide at ho
      cases d with
      | zero => cases hT
      | succ d =>
        simp only [tyOf] at hT
        split at hT
        · rename_i hu; rw [hu] at ho; exact cell_not_agg ho
        · rename_i hu; rw [hu] at ho; exact cell_not_agg ho
        · rename_i hu; rw [hu] at ho; exact cell_not_agg ho
        · rename_i hu; rw [hu] at ho; exact cell_not_agg ho
        · split at hT
          · split at hT
            · cases hT; exact hne _ rfl
            · cases hT
          · cases hT
        · split at hT
          · split at hT
            · cases hT; exact hne _ rfl
            · cases hT
          · cases hT
        · cases hT
    rw [absArg_not_agg hna]
    rw [cells_not_agg hna] at h2
    cases T with
    | many l => exact (hne l rfl).elim
    | _ => exact h2
  cases T with
  | many l =>
    have : ∃ cs, v = .agg cs := by
      unfold Value.okWide at ho
      cases d with
      | zero => cases hT
      | succ d =>
        simp only [tyOf] at hT
        split at hT
        · cases hT
        · cases hT
        · cases hT
        · repeat' split at hT
          all_goals cases hT
        · rename_i fs hu
          rw [hu] at ho
          obtain ⟨cs, h, _⟩ := ho
          exact ⟨cs, h⟩
        · rename_i n e hu
          rw [hu] at ho
          obtain ⟨cs, h, _⟩ := ho
          exact ⟨cs, h⟩
        · cases hT
    obtain ⟨cs, rfl⟩ := this
    exact ⟨_, rfl, h2⟩
  | _ => exact scalar (fun l => by intro h; cases h)

theorem args_ok {base : Nat} {d : Nat} : ∀ {ts : List TypeId} {Ts : List Ty} {vs : List Value} {ds : List (DataW H)} {ps : List MemPlace}, tysOf P d ts = some Ts → DataW.TrodAll enc P W 0 (fun _ => true) true ts vs ds ps →
    (∀ (j : Nat) t v, ts[j]? = some t → vs[j]? = some v → Value.okWide P W .any base t v) → ArgsOk (st0 W) Ts (vs.map (absArg W))
  | [], Ts, [], [], ps, hT, _, _ => by cases hT; trivial
  | t :: ts, Ts, v :: vs, d' :: ds, ps, hT, h, ho => by
    simp only [tysOf] at hT
    split at hT
    case h_1 => cases hT
    rename_i T h1
    split at hT
    case h_1 => cases hT
    rename_i Ts' h2
    cases hT
    obtain ⟨p, q, g1, g2, rfl⟩ := h
    exact ⟨arg_ok h1 g1 (ho 0 t v rfl rfl), args_ok h2 g2 (fun j t v a b => ho (j + 1) t v (by simpa using a) (by simpa using b))⟩
  | [], _, _ :: _, _, _, _, h, _ => h.elim
  | [], _, [], _ :: _, _, _, h, _ => h.elim
  | _ :: _, _, [], _, _, _, h, _ => h.elim
  | _ :: _, _, _ :: _, [], _, _, h, _ => h.elim

theorem argsOk_nil {s : St} {a : List AV} (h : ArgsOk s [] a) : a = [] := by
  cases a with
  | nil => rfl
  | cons _ _ => exact h.elim
theorem argsOk_cons {s : St} {T : Ty} {Ts : List Ty} {a : List AV} (h : ArgsOk s (T :: Ts) a) : ∃ x r, a = x :: r ∧ ArgOk s T x ∧ ArgsOk s Ts r := by
  cases a with
  | nil => exact h.elim
  | cons x r => exact ⟨x, r, rfl, h.1, h.2⟩
theorem argOk_int {s : St} {k : IntKind} {x : AV} (h : ArgOk s (.int k) x) : ∃ n, x = .int k n ∧ k.min ≤ n ∧ n ≤ k.max := by
  obtain ⟨n, h1, h2⟩ := h
  cases h1
  exact ⟨n, rfl, h2⟩
theorem argOk_bool {s : St} {x : AV} (h : ArgOk s .bool x) : ∃ b, x = .bool b := by
  obtain ⟨n, h1⟩ := h
  cases h1
  exact ⟨n, rfl⟩
theorem argOk_slice {s : St} {e : Ty} {x : AV} (h : ArgOk s (.slice e) x) : x = .nilSlice ∨ (∃ a, x = .raw (.slice a 0 0)) ∨ ∃ b o len cap vs, x = .slice b o len cap false ∧ len ≤ cap ∧ cap ≤ maxLen ∧ s.get b = some (.cells vs false true 0) ∧ b < s.next ∧
      (0 < cap ∧ o + cap * e.size ≤ vs.length) ∧ ∀ i, i < cap → Ok s e ((vs.drop (o + i * e.size)).take e.size) := by
  rcases h with h | ⟨a, h⟩ | ⟨b, o, len, cap, vs, h, h'⟩
  · cases h; exact .inl rfl
  · cases h; exact .inr (.inl ⟨a, rfl⟩)
  · cases h; exact .inr (.inr ⟨b, o, len, cap, vs, rfl, h'⟩)

/-- The run of a law. -/
theorem calls_of_args {M : Mach} (hm : P.follows .mixedOrders = true) (hFT : FnsOk P M.FT) (hSM : SumsOk P M.SM) (hSN : SumsNext M.SM) {f : Nat} {Ts : List Ty} (h : ∀ s asg, ArgsOk s Ts asg → Wf M f asg s fun v _ => v = .bool true)
    {args : List Value} (ha : ArgsOk (st0 W) Ts (args.map (absArg W))) : Calls P f args.toArray W fun e w' => e = .returned (.bool true) ∧ Below W.heap.size W w' :=
  calls_of_W hm hFT hSM hSN (h _ _ ha)
end
end Go.Proofs.Ytjejgnbdlfkenaa.D
namespace Go.Proofs.Ytjejgnbdlfkenaa.D
set_option linter.unusedSimpArgs false
noncomputable section

/-- A slice that came in, its elements' cells one by one, and where they lie. -/
structure Acc (s : St) (v : AV) (sz : Nat) (xs : List (List AV)) (b o : Nat) : Prop where
  len : ∀ s', len1 (some v) s' = some (.int .i64 (xs.length : Nat), s')
  idx : ∀ s' (j : Nat), j < xs.length → idx1 sz (some v) (some (.int .i64 (j : Int))) s' = some (.ptr b (o + j * sz), s')
  at_ : ∀ j (h : j < xs.length), ∃ vs, s.get b = some (.cells vs false true 0) ∧ o + (j * sz + sz) ≤ vs.length ∧ (vs.drop (o + j * sz)).take sz = xs[j]
  lt : 0 < xs.length → b < s.next
  cell : v.cell = true
  cells : v.cells = [v]
  max : xs.length ≤ maxLen
  form : 0 < xs.length → ∃ cap, v = .slice b o xs.length cap false ∧ xs.length ≤ cap ∧ cap ≤ maxLen

theorem Acc.mono {s s' : St} {v : AV} {sz : Nat} {xs : List (List AV)} {b o : Nat} (h : Acc s v sz xs b o) (f : Fr s s') : Acc s' v sz xs b o where
  len := h.len
  idx := h.idx
  at_ j hj := by
    obtain ⟨vs, h1, h2⟩ := h.at_ j hj
    exact ⟨vs, (f.get b (h.lt (by omega))).trans h1, h2⟩
  lt hn := Nat.lt_of_lt_of_le (h.lt hn) f.le
  cell := h.cell
  cells := h.cells
  max := h.max
  form := h.form

theorem Acc.monoX {s s' : St} {v : AV} {sz : Nat} {xs : List (List AV)} {b o : Nat} (h : Acc s v sz xs b o) {x : Nat} (f : FrX x s s') {l : List AV} {lo : Bool} {z : Nat} (hx : s.get x = some (.cells l lo false z)) : Acc s' v sz xs b o where
  len := h.len
  idx := h.idx
  at_ j hj := by
    obtain ⟨vs, h1, h2⟩ := h.at_ j hj
    refine ⟨vs, (f.get b (h.lt (by omega)) ?_).trans h1, h2⟩
    intro e
    rw [e, hx] at h1
    cases h1
  lt hn := Nat.lt_of_lt_of_le (h.lt hn) f.le
  cell := h.cell
  cells := h.cells
  max := h.max
  form := h.form

theorem acc_nil (s : St) (sz : Nat) : Acc s .nilSlice sz [] 0 0 where
  len _ := rfl
  idx _ j h := by simp at h
  at_ j h := by simp at h
  lt h := by simp at h
  cell := rfl
  cells := rfl
  max := by simp
  form h := by simp at h

theorem acc_of_ok {s : St} {e : Ty} {v : AV} (h : ArgOk s (.slice e) v) : ∃ xs b o, Acc s v e.size xs b o ∧ ∀ x ∈ xs, Ok s e x := by
  rcases argOk_slice h with rfl | ⟨a, rfl⟩ | ⟨b, o, len, cap, vs, rfl, h1, h2, h3, h4, h5, h6⟩
  · exact ⟨[], 0, 0, acc_nil s _, by simp⟩
  · exact ⟨[], 0, 0, ⟨fun _ => rfl, fun _ j h => by simp at h, fun j h => by simp at h, fun h => by simp at h, rfl, rfl, by simp, fun h => by simp at h⟩, by simp⟩
  · refine ⟨(List.range len).map fun i => (vs.drop (o + i * e.size)).take e.size, b, o, ⟨?_, ?_, ?_, fun _ => h4, rfl, rfl, by simp; omega, fun _ => ⟨cap, by simp, by simpa using h1, h2⟩⟩, ?_⟩
    · intro s'
      simp [len1]
    · intro s' j hj
      rw [List.length_map, List.length_range] at hj
      exact idx1_slice hj
    · intro j hj
      rw [List.length_map, List.length_range] at hj
      refine ⟨vs, h3, ?_, by simp⟩
      have := h5.2
      have h7 : (j + 1) * e.size ≤ cap * e.size := Nat.mul_le_mul_right _ (by omega)
      rw [Nat.succ_mul] at h7
      omega
    · intro x hx
      rw [List.mem_map] at hx
      obtain ⟨i, hi, rfl⟩ := hx
      rw [List.mem_range] at hi
      exact h6 i (by omega)

/-- What lies at a place of an element. -/
theorem Acc.part {s : St} {v : AV} {sz : Nat} {xs : List (List AV)} {b o : Nat} (h : Acc s v sz xs b o) (j : Nat) (hj : j < xs.length) : ∃ vs, s.get b = some (.cells vs false true 0) ∧
    (∀ i n, i + n ≤ sz → o + (j * sz + i) + n ≤ vs.length ∧ (vs.drop (o + (j * sz + i))).take n = (xs[j].drop i).take n) ∧ ∀ i, i < sz → vs[o + (j * sz + i)]? = xs[j][i]? := by
  obtain ⟨vs, h1, h2, h3⟩ := h.at_ j hj
  refine ⟨vs, h1, fun i n hi => ⟨by omega, ?_⟩, fun i hi => ?_⟩
  rotate_left
  · rw [← h3, List.getElem?_take_of_lt hi, List.getElem?_drop, Nat.add_assoc]
  rw [← h3, List.drop_take, List.take_take, List.drop_drop, Nat.min_eq_left (by omega), Nat.add_assoc]

/-- The beginning of a slice. -/
theorem Acc.take {s : St} {v : AV} {sz : Nat} {xs : List (List AV)} {b o : Nat} (h : Acc s v sz xs b o) {j : Nat} (hj : j ≤ xs.length) (h0 : 0 < xs.length) :
    ∃ v', sliceA sz v none (some (.int .i64 (j : Int))) none = some v' ∧ Acc s v' sz (xs.take j) b o := by
  obtain ⟨cap, rfl, hc, hm⟩ := h.form h0
  have hl : (xs.take j).length = j := by rw [List.length_take]; omega
  have hs : sliceA sz (.slice b o xs.length cap false) none (some (.int .i64 (j : Int))) none = some (.slice b o j cap false) := by
    have hb : boundsA xs.length cap none (some (.int .i64 (j : Int))) none = some (0, j, cap) := by
      have hb1 : boundA (.int .i64 (j : Int)) cap = some j := by
        show (if 0 ≤ (j : Int) ∧ (j : Int) ≤ (cap : Int) then some ((j : Int).toNat) else none) = some j
        rw [if_pos ⟨by omega, by omega⟩]
        simp
      unfold boundsA
      simp only [hb1]
    unfold sliceA
    simp only [hb]
    simp
  refine ⟨_, hs, ⟨?_, ?_, ?_, ?_, rfl, rfl, by rw [hl]; omega, fun _ => ⟨cap, by rw [hl], by omega, hm⟩⟩⟩
  · intro s'; rw [hl]; rfl
  · intro s' i hi; rw [hl] at hi; exact idx1_slice hi
  · intro i hi
    rw [hl] at hi
    obtain ⟨vs, h1, h2, h3⟩ := h.at_ i (by omega)
    exact ⟨vs, h1, h2, by rw [h3, List.getElem_take]⟩
  · intro _; exact h.lt h0

theorem ok_slice_arg {s : St} {e : Ty} {v : AV} (h : Ok s (.slice e) [v]) : ArgOk s (.slice e) v := h

theorem ok_slice1 {s : St} {e : Ty} {l : List AV} (h : Ok s (.slice e) l) : ∃ v, l = [v] ∧ ArgOk s (.slice e) v := by
  have h' := h
  rcases h with h | ⟨a, h⟩ | ⟨b, o, len, cap, vs, h, _⟩
  · subst h; exact ⟨_, rfl, h'⟩
  · subst h; exact ⟨_, rfl, h'⟩
  · subst h; exact ⟨_, rfl, h'⟩

theorem okAll_cons {s : St} {T : Ty} {Ts : List Ty} {l : List AV} (h : OkAll s (T :: Ts) l) : ∃ a b, l = a ++ b ∧ Ok s T a ∧ OkAll s Ts b := h
theorem okAll_nil {s : St} {l : List AV} (h : OkAll s [] l) : l = [] := h

theorem allCell_append : ∀ {a b : List AV}, allCell a = true → allCell b = true → allCell (a ++ b) = true
  | [], _, _, h => h
  | x :: a, b, h, k => by
    simp only [allCell, Bool.and_eq_true] at h
    simp only [List.cons_append, allCell, Bool.and_eq_true]
    exact ⟨h.1, allCell_append h.2 k⟩

mutual
theorem ok_length {s : St} : ∀ {T : Ty} {l : List AV}, Ok s T l → l.length = T.size
  | .bool, _, ⟨_, h⟩ => by subst h; rfl
  | .int _, _, ⟨_, h, _⟩ => by subst h; rfl
  | .str, _, ⟨_, h, _⟩ => by subst h; rfl
  | .slice _, _, h => by
    obtain ⟨_, rfl, _⟩ := ok_slice1 h
    rfl
  | .many _, _, h => okAll_length h
theorem okAll_length {s : St} : ∀ {Ts : List Ty} {l : List AV}, OkAll s Ts l → l.length = sizes Ts
  | [], _, h => by cases h; rfl
  | _ :: _, _, ⟨_, _, h, h1, h2⟩ => by subst h; rw [List.length_append, ok_length h1, okAll_length h2]; rfl
end

mutual
theorem ok_cell {s : St} : ∀ {T : Ty} {l : List AV}, Ok s T l → allCell l = true
  | .bool, _, ⟨_, h⟩ => by subst h; rfl
  | .int _, _, ⟨_, h, _⟩ => by subst h; rfl
  | .str, _, ⟨_, h, _⟩ => by subst h; rfl
  | .slice e, l, h => by
    obtain ⟨v, rfl, hv⟩ := ok_slice1 h
    obtain ⟨_, _, _, hA, _⟩ := acc_of_ok hv
    simp [allCell, hA.cell]
  | .many _, _, h => okAll_cell h
theorem okAll_cell {s : St} : ∀ {Ts : List Ty} {l : List AV}, OkAll s Ts l → allCell l = true
  | [], _, h => by cases h; rfl
  | _ :: _, _, ⟨_, _, h, h1, h2⟩ => by subst h; exact allCell_append (ok_cell h1) (okAll_cell h2)
end

/-- A list of cells, each read as one thing. -/
theorem list_read {α : Type} {f : α → List AV} {Q : α → Prop} : ∀ {xs : List (List AV)}, (∀ x ∈ xs, ∃ a, x = f a ∧ Q a) → ∃ l : List α, xs = l.map f ∧ ∀ a ∈ l, Q a
  | [], _ => ⟨[], rfl, by simp⟩
  | x :: xs, h => by
    obtain ⟨a, rfl, ha⟩ := h x (List.mem_cons_self ..)
    obtain ⟨l, rfl, hl⟩ := list_read (xs := xs) fun y hy => h y (List.mem_cons_of_mem _ hy)
    exact ⟨a :: l, rfl, fun b hb => by
      rcases List.mem_cons.1 hb with rfl | hb
      · exact ha
      · exact hl b hb⟩
end
end Go.Proofs.Ytjejgnbdlfkenaa.D
namespace Go.Proofs.Ytjejgnbdlfkenaa.D
set_option linter.unusedSimpArgs false
set_option linter.unusedVariables false
noncomputable section
variable {M : Mach} {ro : Option Nat} {k : List Fk} {dr : Dr} {ops : List PO} {ts : Tr AV} {ds : List Nat} {s : St} {Q : Post} {d : Option Nat} {P : AV → St → Prop}

/-- A round of a loop over a function. -/
def Round (M : Mach) (r : Nat) (args : List AV) (s : St) (P : Bool → St → Prop) : Prop := ∃ b s', roundA M.L r args s = some (.bool b, s') ∧ P b s'

theorem Round.mono {r : Nat} {args : List AV} {P P' : Bool → St → Prop} (h : Round M r args s P) (hp : ∀ b s', P b s' → P' b s') : Round M r args s P' := by
  obtain ⟨b, s', h1, h2⟩ := h
  exact ⟨b, s', h1, hp b s' h2⟩

theorem Wc_yld {r : Nat} {args : List AV} (h : Round M r args s fun b s' => Wo M ro k dr ops (putT d (.bool b) ts) ds s' Q) : Wc M ro (some (.yld r)) (some args) d k dr ops ts ds s Q := by
  obtain ⟨b, s', h1, h2⟩ := h
  exact ⟨_, _, rfl, rfl, _, _, h1, h2⟩

/-- What is put behind a round. -/
def roundEnd (r : Nat) (x : AExit) (s : St) (P : Bool → St → Prop) : Prop :=
  ∃ st pe ts ps a b d, s.get r = some (.loop st pe ts ps a b d) ∧
    match x with
    | .normal => P true (s.put r (.loop .ready .normal ts ps a b d))
    | x => P false (s.put r (.loop .done x ts ps a b d))

theorem Round_of {r : Nat} {args : List AV} {P : Bool → St → Prop} {pe : AExit} {ts0 : Tr AV} {ps : List Nat} {asg bd : PC} {d0 : Nat} (hr : s.get r = some (.loop .ready pe ts0 ps asg bd d0)) (hl : args.length = ps.length)
    (h : Wk M (some r) [] asg (setTs ps args ts0) [] s fun x ts1 ds1 s1 => x = .normal ∧ ds1 = [] ∧ ∃ pe ts2 ps2 a2 b2 d2, s1.get r = some (.loop .ready pe ts2 ps2 a2 b2 d2) ∧
      Wk M (some r) [] bd ts1 [] (s1.put r (.loop .busy pe ts2 ps2 a2 b2 d2)) fun x _ ds3 s3 => ds3 = [] ∧ roundEnd r x s3 P) : Round M r args s P := by
  obtain ⟨x, ts1, ds1, s1, h1, h2⟩ := h
  rw [Wr_nil] at h2
  obtain ⟨rfl, rfl, pe2, ts2, ps2, a2, b2, d2, h3, x3, t3, ds3, s3, h4, h5⟩ := h2
  rw [Wr_nil] at h5
  obtain ⟨rfl, st, pe4, ts4, ps4, a4, b4, d4, h6, h7⟩ := h5
  unfold Round roundA
  rw [hr]
  dsimp only
  rw [if_pos hl, h1]
  dsimp only
  rw [h3]
  dsimp only
  rw [h4]
  dsimp only
  rw [h6]
  cases x3 with
  | normal => exact ⟨true, _, rfl, h7⟩
  | exit id => exact ⟨false, _, rfl, h7⟩
  | ret => exact ⟨false, _, rfl, h7⟩

theorem Wk_range {x : X} {ps : List Nat} {asg bd : PC} {g : Nat} {first cap : List AV} (hx : evOf ts x = some (.fn (.func g) first cap))
    (h : Wf M g (first ++ [.yld (s.next + 1)] ++ cap) ((s.new .defd).new (.loop .ready .normal ts ps asg bd s.next)) fun _ s3 => ∃ st pe ts2 ps2 a2 b2 d2, s3.get (s.next + 1) = some (.loop st pe ts2 ps2 a2 b2 d2) ∧ st ≠ .busy ∧
      Wr M none k pe ts (s.next :: ds) (s3.put (s.next + 1) (.loop .exhausted pe ts2 ps2 a2 b2 d2)) Q) :
    Wk M none k (.rangeF x ps asg bd) ts ds s Q := by
  obtain ⟨v, s3, h1, st, pe, ts2, ps2, a2, b2, d2, h2, h3, h4⟩ := h
  refine ⟨pe, ts, s.next :: ds, _, ?_, h4⟩
  rw [lim_ex]
  simp only [exStep, hx, rangeA]
  rw [show (s.new .defd).next = s.next + 1 from rfl, h1]
  dsimp only
  rw [h2]
  cases st with
  | busy => exact (h3 rfl).elim
  | _ => rfl

theorem Wk_envs {c : PC} (F : Tr AV → Prop) (h : F ts) (h2 : ∀ ts, F ts → Wk M ro k c ts ds s Q) : Wk M ro k c ts ds s Q := h2 ts h

/-- The end of a function, what was put off taken away. -/
def Wz (o : Option St) (ts : Tr AV) (rs : List PRes) (P : AV → St → Prop) : Prop := ∃ s', o = some s' ∧ Wy (ressA ts s' rs) s' P
@[congr] theorem Wz_congr {o o' : Option St} {rs : List PRes} (h : o = o') : Wz o ts rs P = Wz o' ts rs P := by rw [h]
theorem Wz_some {s' : St} {rs : List PRes} : Wz (some s') ts rs P = Wy (ressA ts s' rs) s' P := by
  apply propext
  constructor
  · rintro ⟨_, h, hq⟩; cases h; exact hq
  · intro h; exact ⟨_, rfl, h⟩
theorem Wr_finD {rs : List PRes} {e : Nat} : Wr M ro [] .ret ts (e :: ds) s (Fin rs P) = Wz (takeAll (e :: ds) s) ts rs P := by
  rw [Wr_nil]
  apply propext
  constructor
  · rintro ⟨_, s', h, hq⟩; exact ⟨s', h, hq⟩
  · rintro ⟨s', h, hq⟩; exact ⟨fun _ h => (by cases h), s', h, hq⟩
theorem Wr_finD' {rs : List PRes} {e : Nat} : Wr M ro [] .normal ts (e :: ds) s (Fin rs P) = Wz (takeAll (e :: ds) s) ts rs P := by
  rw [Wr_nil]
  apply propext
  constructor
  · rintro ⟨_, s', h, hq⟩; exact ⟨s', h, hq⟩
  · rintro ⟨s', h, hq⟩; exact ⟨fun _ h => (by cases h), s', h, hq⟩
attribute [go_sem] Wz_some Wr_finD Wr_finD' takeAll setTs St.get_drop St.next_drop
end
end Go.Proofs.Ytjejgnbdlfkenaa.D
