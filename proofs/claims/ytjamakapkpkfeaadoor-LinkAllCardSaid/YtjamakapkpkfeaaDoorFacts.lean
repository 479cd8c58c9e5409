/- Facts on the digest at the chapter's examples, by computation in the kernel. -/
import Derived.Test.YtjamakapkpkfeaaDoorNet2
namespace Go.Proofs.YtjamakapkpkfeaaDoor
open Sha

def exPkt (i : Nat) : Pkt := ⟨(i : Int) + 1, 0, str [120 + i], sealOf (keyAt 0) ⟨(i : Int) + 1, 0, str [120 + i], ⟨#[]⟩⟩⟩
theorem key_ne : ¬ (keyAt 0 = keyAt 1) := by decide +kernel
theorem ex_other0 : ¬ (sealOf (keyAt 0) (exPkt 0) = sealOf (keyAt 1) (exPkt 0)) := by decide +kernel
theorem ex_other1 : ¬ (sealOf (keyAt 0) (exPkt 1) = sealOf (keyAt 1) (exPkt 1)) := by decide +kernel
theorem ex_other2 : ¬ (sealOf (keyAt 0) (exPkt 2) = sealOf (keyAt 1) (exPkt 2)) := by decide +kernel
theorem ex_odd : ¬ (sealOf (keyAt 0) (exPkt 2) = sealOf (keyAt 0) { exPkt 2 with body := str [119] }) := by decide +kernel
theorem ex_content : content (exPkt 0) = str [16, 2, 0, 2, 120] := by decide +kernel
end Go.Proofs.YtjamakapkpkfeaaDoor
