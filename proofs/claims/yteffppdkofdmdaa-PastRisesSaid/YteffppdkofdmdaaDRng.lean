/- Loops over functions: rules for runs with unknown values. Plain laws; no program. -/
import Derived.Test.YteffppdkofdmdaaDSet
namespace Go.Proofs.Yteffppdkofdmdaa.D
set_option linter.unusedSimpArgs false
set_option linter.unusedVariables false
noncomputable section
variable {M : Mach} {ro : Option Nat} {k : List Fk} {dr : Dr} {ops : List PO} {ts : Tr AV} {ds : List Nat} {s : St} {Q : Post} {d : Option Nat} {P : AV → St → Prop}

/-- A round of a loop over a function. -/
def Round (M : Mach) (r : Nat) (args : List AV) (s : St) (P : Bool → St → Prop) : Prop := ∃ b s', roundA M.L r args s = some (.bool b, s') ∧ P b s'

theorem Round.mono {r : Nat} {args : List AV} {P P' : Bool → St → Prop} (h : Round M r args s P) (hp : ∀ b s', P b s' → P' b s') : Round M r args s P' := by
  obtain ⟨b, s', h1, h2⟩ := h
  exact ⟨b, s', h1, hp b s' h2⟩

theorem Wc_yld {r : Nat} {args : List AV} (h : Round M r args s fun b s' => Wo M ro k dr ops (putT d (.bool b) ts) ds s' Q) : Wc M ro (some (.yld r)) (some args) d k dr ops ts ds s Q := by
  obtain ⟨b, s', h1, h2⟩ := h
  exact ⟨_, _, rfl, rfl, _, _, h1, h2⟩

/-- What is put behind a round. -/
def roundEnd (r : Nat) (x : AExit) (s : St) (P : Bool → St → Prop) : Prop :=
  ∃ st pe ts ps a b d, s.get r = some (.loop st pe ts ps a b d) ∧
    match x with
    | .normal => P true (s.put r (.loop .ready .normal ts ps a b d))
    | x => P false (s.put r (.loop .done x ts ps a b d))

theorem Round_of {r : Nat} {args : List AV} {P : Bool → St → Prop} {pe : AExit} {ts0 : Tr AV} {ps : List Nat} {as bd : PC} {d0 : Nat} (hr : s.get r = some (.loop .ready pe ts0 ps as bd d0)) (hl : args.length = ps.length)
    (h : Wk M (some r) [] as (setTs ps args ts0) [] s fun x ts1 ds1 s1 => x = .normal ∧ ds1 = [] ∧ ∃ pe ts2 ps2 a2 b2 d2, s1.get r = some (.loop .ready pe ts2 ps2 a2 b2 d2) ∧
      Wk M (some r) [] bd ts1 [] (s1.put r (.loop .busy pe ts2 ps2 a2 b2 d2)) fun x _ ds3 s3 => ds3 = [] ∧ roundEnd r x s3 P) : Round M r args s P := by
  obtain ⟨x, ts1, ds1, s1, h1, h2⟩ := h
  rw [Wr_nil] at h2
  obtain ⟨rfl, rfl, pe2, ts2, ps2, a2, b2, d2, h3, x3, t3, ds3, s3, h4, h5⟩ := h2
  rw [Wr_nil] at h5
  obtain ⟨rfl, st, pe4, ts4, ps4, a4, b4, d4, h6, h7⟩ := h5
  unfold Round roundA
  rw [hr]
  dsimp only
  rw [if_pos hl, h1]
  dsimp only
  rw [h3]
  dsimp only
  rw [h4]
  dsimp only
  rw [h6]
  cases x3 with
  | normal => exact ⟨true, _, rfl, h7⟩
  | exit id => exact ⟨false, _, rfl, h7⟩
  | ret => exact ⟨false, _, rfl, h7⟩

theorem Wk_range {x : X} {ps : List Nat} {as bd : PC} {g : Nat} {first cap : List AV} (hx : evOf ts x = some (.fn (.func g) first cap))
    (h : Wf M g (first ++ [.yld (s.next + 1)] ++ cap) ((s.new .defd).new (.loop .ready .normal ts ps as bd s.next)) fun _ s3 => ∃ st pe ts2 ps2 a2 b2 d2, s3.get (s.next + 1) = some (.loop st pe ts2 ps2 a2 b2 d2) ∧ st ≠ .busy ∧
      Wr M none k pe ts (s.next :: ds) (s3.put (s.next + 1) (.loop .exhausted pe ts2 ps2 a2 b2 d2)) Q) :
    Wk M none k (.rangeF x ps as bd) ts ds s Q := by
  obtain ⟨v, s3, h1, st, pe, ts2, ps2, a2, b2, d2, h2, h3, h4⟩ := h
  refine ⟨pe, ts, s.next :: ds, _, ?_, h4⟩
  rw [lim_ex]
  simp only [exStep, hx, rangeA]
  rw [show (s.new .defd).next = s.next + 1 from rfl, h1]
  dsimp only
  rw [h2]
  cases st with
  | busy => exact (h3 rfl).elim
  | _ => rfl

theorem Wk_envs {c : PC} (F : Tr AV → Prop) (h : F ts) (h2 : ∀ ts, F ts → Wk M ro k c ts ds s Q) : Wk M ro k c ts ds s Q := h2 ts h

/-- The end of a function, what was put off taken away. -/
def Wz (o : Option St) (ts : Tr AV) (rs : List PRes) (P : AV → St → Prop) : Prop := ∃ s', o = some s' ∧ Wy (ressA ts s' rs) s' P
@[congr] theorem Wz_congr {o o' : Option St} {rs : List PRes} (h : o = o') : Wz o ts rs P = Wz o' ts rs P := by rw [h]
theorem Wz_some {s' : St} {rs : List PRes} : Wz (some s') ts rs P = Wy (ressA ts s' rs) s' P := by
  apply propext
  constructor
  · rintro ⟨_, h, hq⟩; cases h; exact hq
  · intro h; exact ⟨_, rfl, h⟩
theorem Wr_finD {rs : List PRes} {e : Nat} : Wr M ro [] .ret ts (e :: ds) s (Fin rs P) = Wz (takeAll (e :: ds) s) ts rs P := by
  rw [Wr_nil]
  apply propext
  constructor
  · rintro ⟨_, s', h, hq⟩; exact ⟨s', h, hq⟩
  · rintro ⟨s', h, hq⟩; exact ⟨fun _ h => (by cases h), s', h, hq⟩
theorem Wr_finD' {rs : List PRes} {e : Nat} : Wr M ro [] .normal ts (e :: ds) s (Fin rs P) = Wz (takeAll (e :: ds) s) ts rs P := by
  rw [Wr_nil]
  apply propext
  constructor
  · rintro ⟨_, s', h, hq⟩; exact ⟨s', h, hq⟩
  · rintro ⟨s', h, hq⟩; exact ⟨fun _ h => (by cases h), s', h, hq⟩
attribute [go_sem] Wz_some Wr_finD Wr_finD' takeAll setTs St.get_drop St.next_drop
end
end Go.Proofs.Yteffppdkofdmdaa.D
