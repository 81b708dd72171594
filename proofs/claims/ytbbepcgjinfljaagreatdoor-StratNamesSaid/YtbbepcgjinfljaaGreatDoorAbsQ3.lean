/- The whole run: StratNames returns true. -/
import Derived.Test.YtbbepcgjinfljaaGreatDoorAbsQ6
import Derived.Test.YtbbepcgjinfljaaGreatDoorAbsQ35
namespace Go.Proofs.YtbbepcgjinfljaaGreatDoor
open Go.Abs Go.RowKit
theorem isTrue_ok {x : Option (List OutF)} (h : isTrue x = true) : ∃ h nx, x = some [(.ret (.bool true), h, nx)] := by
  unfold isTrue at h
  split at h
  · exact ⟨_, _, rfl⟩
  · cases h
theorem r3 : isTrue (callK T [k6, k35] 400 60 false 3 [] [] 0) = true := by kernel_rfl
theorem run3 (w : World) : Calls Tryz.prog 3 #[] w fun e w' => e = .returned (.bool true) ∧ Below w.heap.size w w' := by
  obtain ⟨h, nx, hr⟩ := isTrue_ok r3
  have hf := piece_ok mixed tabOK (l := [k6, k35]) (List.forall_mem_cons.2 ⟨f6, List.forall_mem_cons.2 ⟨f35, no_known⟩⟩) 400 60 hr
  have hW : WR w (fun _ => ⟨0, 0, 0⟩) [] 0 w := ⟨Below.refl _ _, List.nodup_nil, fun id B hg => (nothing hg).elim, fun i j Bi Bj hi => (nothing hi).elim⟩
  refine (hf.2 w (fun _ => ⟨0, 0, 0⟩) w hW (fun v hv => (List.not_mem_nil hv).elim)).mono fun e w' hx => ?_
  obtain ⟨x, hx, β', he, hn, hW', hl, hR⟩ := hx
  simp only [List.mem_singleton] at hx
  subst hx
  refine ⟨?_, hW'.below⟩
  cases e with
  | returned v => simp only [ResR, conc] at hR; rw [hR]
  | panicked ch => exact hR.elim
  | outgrown => exact hR.elim
end Go.Proofs.YtbbepcgjinfljaaGreatDoor
