/- How long cells, bytes are that came in. -/
import Derived.Test.YtkhjdcnlpablkaaDoorTabs
namespace Go.Proofs.YtkhjdcnlpablkaaDoor
open Go.RowKit
section
variable {H : Type} {enc : TypeId × Value → H} {w : World}
theorem ces_reach {fuel : Nat} {d : DataW H} {ps : List MemPlace} {ao : Option Addr} {n cap : Nat} (h : DataW.trod enc Tryd.prog w 0 (fun _ => true) true fuel 24 [.slice ao n cap] = some (d, ps)) (hfit : Fits Tryd.prog 24 d) : n * 32 ≤ 140737488355328 := by
  obtain ⟨ao', n', cap', xss, hcs, hrd, hl, hl3, hreach, hel⟩ := rd_slice (size := 3) Tryd.underlying24 (by kernel_rfl) (by decide) h hfit
  simp at hcs
  obtain ⟨rfl, rfl, rfl⟩ := hcs
  rw [show Tryd.prog.bytesOf 60 = 32 by kernel_rfl] at hreach
  unfold reachBytes at hreach
  obtain ⟨_, _, hv, hc, _⟩ := hrd.shape
  simp at hv
  omega
theorem bytes_reach {fuel : Nat} {d : DataW H} {ps : List MemPlace} {ao : Option Addr} {n cap : Nat} (h : DataW.trod enc Tryd.prog w 0 (fun _ => true) true fuel 22 [.slice ao n cap] = some (d, ps)) (hfit : Fits Tryd.prog 22 d) : n ≤ 140737488355328 := by
  obtain ⟨ao', n', cap', zs, hcs, hrd, hreach, hz⟩ := rd_ints Tryd.underlying22 Tryd.underlying5 (by kernel_rfl) h hfit
  simp at hcs
  obtain ⟨rfl, rfl, rfl⟩ := hcs
  rw [show Tryd.prog.bytesOf 5 = 1 by kernel_rfl] at hreach
  unfold reachBytes at hreach
  obtain ⟨_, _, hv, hc, _⟩ := hrd.shape
  simp at hv
  omega
end
end Go.Proofs.YtkhjdcnlpablkaaDoor
