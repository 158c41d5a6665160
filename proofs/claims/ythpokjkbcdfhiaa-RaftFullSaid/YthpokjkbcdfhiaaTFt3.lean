/- RaftFull's states, each step by evaluation. (Printed by gen_full.py.) -/
import Derived.Test.YthpokjkbcdfhiaaTFull0
namespace Go.Proofs.Ythpokjkbcdfhiaa.Told.RF
open Go Go.Proofs.Ythpokjkbcdfhiaa.Vam Go.Proofs.Ythpokjkbcdfhiaa.Told
theorem t140 : T 140 := ⟨by kernel_rfl, by kernel_rfl⟩
theorem t141 : T 141 := ⟨by kernel_rfl, by kernel_rfl⟩
theorem t142 : T 142 := ⟨by kernel_rfl, by kernel_rfl⟩
theorem t143 : T 143 := ⟨by kernel_rfl, by kernel_rfl⟩
theorem t144 : T 144 := ⟨by kernel_rfl, by kernel_rfl⟩
theorem t145 : T 145 := ⟨by kernel_rfl, by kernel_rfl⟩
theorem t146 : T 146 := ⟨by kernel_rfl, by kernel_rfl⟩
theorem t147 : T 147 := ⟨by kernel_rfl, by kernel_rfl⟩
theorem t148 : T 148 := ⟨by kernel_rfl, by kernel_rfl⟩
theorem t149 : T 149 := ⟨by kernel_rfl, by kernel_rfl⟩
theorem t150 : T 150 := ⟨by kernel_rfl, by kernel_rfl⟩
theorem t151 : T 151 := ⟨by kernel_rfl, by kernel_rfl⟩
theorem t152 : T 152 := ⟨by kernel_rfl, by kernel_rfl⟩
theorem t153 : T 153 := ⟨by kernel_rfl, by kernel_rfl⟩
theorem t154 : T 154 := ⟨by kernel_rfl, by kernel_rfl⟩
end Go.Proofs.Ythpokjkbcdfhiaa.Told.RF
