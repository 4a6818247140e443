/- The operations of the abstract machine do what the model's do: all of them. -/
import Derived.Test.YteffppdkofdmdaaDSnd12
namespace Go.Proofs.Yteffppdkofdmdaa.D
variable {P : Program} {R : Nat} {μ : Place} {s : St} {w : World} {ev : Ev} {ρ : Operand → Value} {o : Oper} {p : POp} {v : AV} {s' : St}

theorem xop_sound (hp : prepOp P o = some p) (h : HR P R μ s w) (hρ : EvR μ ev ρ) (hx : xop p ev s = some (v, s')) (hR : s'.next ≤ R) : Snd P R μ s w (execOp ρ o) v s' := by
  cases ho : o.op with
  | move x => exact snd_move (.inl ho) hp h hρ hx hR
  | assign x => exact snd_move (.inr ho) hp h hρ hx hR
  | pick => exact snd_pick ho hp h hρ hx hR
  | alloc => exact snd_alloc ho hp h hρ hx hR
  | box => exact snd_box ho hp h hρ hx hR
  | build => exact snd_build ho hp h hρ hx hR
  | buildSlice => exact snd_buildSlice ho hp h hρ hx hR
  | load => exact snd_load ho hp h hρ hx hR
  | store => exact snd_store ho hp h hρ hx hR
  | nilCheck => exact snd_nilCheck ho hp h hρ hx hR
  | binOp => exact snd_bin ho hp h hρ hx hR
  | unOp => exact snd_un ho hp h hρ hx hR
  | convert => exact snd_convert ho hp h hρ hx hR
  | makeInterface => exact snd_mkIface ho hp h hρ hx hR
  | makeFunc => exact snd_mkFunc ho hp h hρ hx hR
  | makeMap t n =>
    cases n with
    | none => exact snd_makeMap ho hp h hρ hx hR
    | some n => unfold prepOp at hp; rw [ho] at hp; cases hp
  | makeSlice => exact snd_makeSlice ho hp h hρ hx hR
  | slice => exact snd_slice ho hp h hρ hx hR
  | fieldAddr => exact snd_fieldAddr ho hp h hρ hx hR
  | field => exact snd_field ho hp h hρ hx hR
  | indexAddr => exact snd_indexAddr ho hp h hρ hx hR
  | index => exact snd_index ho hp h hρ hx hR
  | lookup => exact snd_lookup ho hp h hρ hx hR
  | mapUpdate => exact snd_mapUpdate ho hp h hρ hx hR
  | extract => exact snd_extract ho hp h hρ hx hR
  | call c =>
    cases hc : c.callee with
    | value f =>
      unfold prepOp at hp
      rw [ho] at hp
      simp only [hc] at hp
      split at hp
      · simp only [Option.map_eq_some_iff] at hp
        obtain ⟨x, _, rfl⟩ := hp
        cases hx
      · cases hp
    | builtin b =>
      cases b with
      | append => exact snd_append ho hc hp h hρ hx hR
      | copy => exact snd_copy ho hc hp h hρ hx hR
      | len => exact snd_len ho hc hp h hρ hx hR
      | cap => exact snd_cap ho hc hp h hρ hx hR
      | min => exact snd_minmax (mx := false) ho hc hp h hρ hx hR
      | max => exact snd_minmax (mx := true) ho hc hp h hρ hx hR
      | clear => exact snd_clear ho hc hp h hρ hx hR
      | delete => exact snd_delete ho hc hp h hρ hx hR
      | _ => unfold prepOp at hp; rw [ho] at hp; simp only [hc] at hp; split at hp <;> cases hp
    | invoke _ _ => unfold prepOp at hp; rw [ho] at hp; simp only [hc] at hp; cases hp
  | _ => unfold prepOp at hp; rw [ho] at hp; cases hp
end Go.Proofs.Yteffppdkofdmdaa.D
