/- A law's row, of a run of the abstract machine over what the law finds. Plain laws; no program. -/
import Derived.Test.YteffppdkofdmdaaDArgs
import Derived.Carry
namespace Go.Proofs.Yteffppdkofdmdaa.D
noncomputable section
open Go.RowKit
variable {P : Program} {H : Type} {enc : TypeId × Value → H} {W W' : World}

def carries (P : Program) (ts : List TypeId) : Bool := ts.all fun t => P.readableRec t && decide (t < P.types.size)

theorem trodAll_stays (hl : laidOutB P = true) (hb : Below W.heap.size W W') {sp : Nat → Bool} : ∀ {ts : List TypeId} {vs : List Value} {ds : List (DataW H)} {ps : List MemPlace}, carries P ts = true → DataW.TrodAll enc P W 0 (fun _ => true) true ts vs ds ps →
    (∀ x ∈ ps, x.block < W.heap.size) → (∀ x ∈ ps, sp x.block = true) → DataW.TrodAll enc P W' 0 sp true ts vs ds ps
  | [], [], [], ps, _, h, _, _ => h
  | t :: ts, v :: vs, d :: ds, ps, hc, h, hlt, hsp => by
    obtain ⟨p, q, h1, h2, rfl⟩ := h
    simp only [carries, List.all_cons, Bool.and_eq_true, decide_eq_true_eq] at hc
    refine ⟨p, q, ?_, trodAll_stays hl hb (by simpa [carries] using hc.2) h2 (fun x hx => hlt x (List.mem_append_right _ hx)) (fun x hx => hsp x (List.mem_append_right _ hx)), rfl⟩
    exact WideElems.Trod_stays hl hc.1.1 hc.1.2 h1 (fun x hx => hb.same (hlt x (List.mem_append_left _ hx))) (fun x hx => hsp x (List.mem_append_left _ hx))
  | [], _ :: _, _, _, _, h, _, _ => h.elim
  | [], [], _ :: _, _, _, h, _, _ => h.elim
  | _ :: _, [], _, _, _, h, _, _ => h.elim
  | _ :: _, _ :: _, [], _, _, h, _, _ => h.elim

/-- An argument, as the abstract machine's. -/
def absArg (w : World) (v : Value) : AV :=
  match v with
  | .agg cs => .agg (cs.toList.map (absA w))
  | v => absA w v

/-- What an argument of a type holds. -/
def ArgOk (s : St) : Ty → AV → Prop
  | .many ts, a => ∃ l, a = .agg l ∧ OkAll s ts l
  | T, a => Ok s T [a]

def ArgsOk (s : St) : List Ty → List AV → Prop
  | [], [] => True
  | T :: Ts, a :: as => ArgOk s T a ∧ ArgsOk s Ts as
  | _, _ => False

def tysOf (P : Program) (d : Nat) : List TypeId → Option (List Ty)
  | [] => some []
  | t :: ts => match tyOf P d t with
    | none => none
    | some T => match tysOf P d ts with
      | none => none
      | some Ts => some (T :: Ts)

theorem cells_not_agg {v : Value} (h : ∀ cs, v ≠ .agg cs) : v.cells.toList = [v] := by
  cases v <;> first | rfl | exact (h _ rfl).elim

theorem absArg_not_agg {w : World} {v : Value} (h : ∀ cs, v ≠ .agg cs) : absArg w v = absA w v := by
  cases v <;> first | rfl | exact (h _ rfl).elim

theorem cell_not_agg {P : Program} {w : World} {r : Reach} {base : Nat} {t : TypeId} {cs : Array Value} : ¬ Cell.okWide P w r base t (.agg cs) := by
  intro h
  unfold Cell.okWide Cell.ok at h
  repeat' split at h
  all_goals try exact h
  all_goals simp_all

theorem arg_ok {base : Nat} {d : Nat} {t : TypeId} {T : Ty} (hT : tyOf P d t = some T) {v : Value} {x : DataW H} {ps : List MemPlace} (h : DataW.Trod enc P W 0 (fun _ => true) true t v x ps) (ho : Value.okWide P W .any base t v) : ArgOk (st0 W) T (absArg W v) := by
  obtain ⟨fuel, hf⟩ := h
  obtain ⟨_, h2⟩ := shown d t T fuel _ _ hT hf
  have scalar : (∀ l, T ≠ .many l) → ArgOk (st0 W) T (absArg W v) := by
    intro hne
    have hna : ∀ cs, v ≠ .agg cs := by
      intro cs e
      subst e
      unfold Value.okWide at ho
      cases d with
      | zero => cases hT
      | succ d =>
        simp only [tyOf] at hT
        split at hT
        · rename_i hu; rw [hu] at ho; exact cell_not_agg ho
        · rename_i hu; rw [hu] at ho; exact cell_not_agg ho
        · rename_i hu; rw [hu] at ho; exact cell_not_agg ho
        · rename_i hu; rw [hu] at ho; exact cell_not_agg ho
        · split at hT
          · split at hT
            · cases hT; exact hne _ rfl
            · cases hT
          · cases hT
        · split at hT
          · split at hT
            · cases hT; exact hne _ rfl
            · cases hT
          · cases hT
        · cases hT
    rw [absArg_not_agg hna]
    rw [cells_not_agg hna] at h2
    cases T with
    | many l => exact (hne l rfl).elim
    | _ => exact h2
  cases T with
  | many l =>
    have : ∃ cs, v = .agg cs := by
      unfold Value.okWide at ho
      cases d with
      | zero => cases hT
      | succ d =>
        simp only [tyOf] at hT
        split at hT
        · cases hT
        · cases hT
        · cases hT
        · repeat' split at hT
          all_goals cases hT
        · rename_i fs hu
          rw [hu] at ho
          obtain ⟨cs, h, _⟩ := ho
          exact ⟨cs, h⟩
        · rename_i n e hu
          rw [hu] at ho
          obtain ⟨cs, h, _⟩ := ho
          exact ⟨cs, h⟩
        · cases hT
    obtain ⟨cs, rfl⟩ := this
    exact ⟨_, rfl, h2⟩
  | _ => exact scalar (fun l => by intro h; cases h)

theorem args_ok {base : Nat} {d : Nat} : ∀ {ts : List TypeId} {Ts : List Ty} {vs : List Value} {ds : List (DataW H)} {ps : List MemPlace}, tysOf P d ts = some Ts → DataW.TrodAll enc P W 0 (fun _ => true) true ts vs ds ps →
    (∀ (j : Nat) t v, ts[j]? = some t → vs[j]? = some v → Value.okWide P W .any base t v) → ArgsOk (st0 W) Ts (vs.map (absArg W))
  | [], Ts, [], [], ps, hT, _, _ => by cases hT; trivial
  | t :: ts, Ts, v :: vs, d' :: ds, ps, hT, h, ho => by
    simp only [tysOf] at hT
    split at hT
    case h_1 => cases hT
    rename_i T h1
    split at hT
    case h_1 => cases hT
    rename_i Ts' h2
    cases hT
    obtain ⟨p, q, g1, g2, rfl⟩ := h
    exact ⟨arg_ok h1 g1 (ho 0 t v rfl rfl), args_ok h2 g2 (fun j t v a b => ho (j + 1) t v (by simpa using a) (by simpa using b))⟩
  | [], _, _ :: _, _, _, _, h, _ => h.elim
  | [], _, [], _ :: _, _, _, h, _ => h.elim
  | _ :: _, _, [], _, _, _, h, _ => h.elim
  | _ :: _, _, _ :: _, [], _, _, h, _ => h.elim

theorem argsOk_nil {s : St} {a : List AV} (h : ArgsOk s [] a) : a = [] := by
  cases a with
  | nil => rfl
  | cons _ _ => exact h.elim
theorem argsOk_cons {s : St} {T : Ty} {Ts : List Ty} {a : List AV} (h : ArgsOk s (T :: Ts) a) : ∃ x r, a = x :: r ∧ ArgOk s T x ∧ ArgsOk s Ts r := by
  cases a with
  | nil => exact h.elim
  | cons x r => exact ⟨x, r, rfl, h.1, h.2⟩
theorem argOk_int {s : St} {k : IntKind} {x : AV} (h : ArgOk s (.int k) x) : ∃ n, x = .int k n ∧ k.min ≤ n ∧ n ≤ k.max := by
  obtain ⟨n, h1, h2⟩ := h
  cases h1
  exact ⟨n, rfl, h2⟩
theorem argOk_bool {s : St} {x : AV} (h : ArgOk s .bool x) : ∃ b, x = .bool b := by
  obtain ⟨n, h1⟩ := h
  cases h1
  exact ⟨n, rfl⟩
theorem argOk_slice {s : St} {e : Ty} {x : AV} (h : ArgOk s (.slice e) x) : x = .nilSlice ∨ (∃ a, x = .raw (.slice a 0 0)) ∨ ∃ b o len cap vs, x = .slice b o len cap false ∧ len ≤ cap ∧ cap ≤ maxLen ∧ s.get b = some (.cells vs false true 0) ∧ b < s.next ∧
      (0 < cap → o + cap * e.size ≤ vs.length) ∧ ∀ i, i < cap → Ok s e ((vs.drop (o + i * e.size)).take e.size) := by
  rcases h with h | ⟨a, h⟩ | ⟨b, o, len, cap, vs, h, h'⟩
  · cases h; exact .inl rfl
  · cases h; exact .inr (.inl ⟨a, rfl⟩)
  · cases h; exact .inr (.inr ⟨b, o, len, cap, vs, rfl, h'⟩)

/-- The run of a law. -/
theorem calls_of_args {M : Mach} (hm : P.follows .mixedOrders = true) (hFT : FnsOk P M.FT) (hSM : SumsOk P M.SM) (hSN : SumsNext M.SM) {f : Nat} {Ts : List Ty} (h : ∀ s as, ArgsOk s Ts as → Wf M f as s fun v _ => v = .bool true)
    {args : List Value} (ha : ArgsOk (st0 W) Ts (args.map (absArg W))) : Calls P f args.toArray W fun e w' => e = .returned (.bool true) ∧ Below W.heap.size W w' :=
  calls_of_W hm hFT hSM hSN (h _ _ ha)
end
end Go.Proofs.Yteffppdkofdmdaa.D
