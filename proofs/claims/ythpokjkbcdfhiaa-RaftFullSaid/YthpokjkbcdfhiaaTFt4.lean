/- RaftFull's states, each step by evaluation. (Printed by gen_full.py.) -/
import Derived.Test.YthpokjkbcdfhiaaTFull0
namespace Go.Proofs.Ythpokjkbcdfhiaa.Told.RF
open Go Go.Proofs.Ythpokjkbcdfhiaa.Vam Go.Proofs.Ythpokjkbcdfhiaa.Told
theorem t155 : T 155 := ⟨by kernel_rfl, by kernel_rfl⟩
theorem t156 : T 156 := ⟨by kernel_rfl, by kernel_rfl⟩
theorem t157 : T 157 := ⟨by kernel_rfl, by kernel_rfl⟩
theorem t158 : T 158 := ⟨by kernel_rfl, by kernel_rfl⟩
theorem t159 : T 159 := ⟨by kernel_rfl, by kernel_rfl⟩
theorem t160 : T 160 := ⟨by kernel_rfl, by kernel_rfl⟩
theorem t161 : T 161 := ⟨by kernel_rfl, by kernel_rfl⟩
theorem t162 : T 162 := ⟨by kernel_rfl, by kernel_rfl⟩
theorem t163 : T 163 := ⟨by kernel_rfl, by kernel_rfl⟩
theorem t164 : T 164 := ⟨by kernel_rfl, by kernel_rfl⟩
theorem t165 : T 165 := ⟨by kernel_rfl, by kernel_rfl⟩
theorem t166 : T 166 := ⟨by kernel_rfl, by kernel_rfl⟩
theorem t167 : T 167 := ⟨by kernel_rfl, by kernel_rfl⟩
theorem t168 : T 168 := ⟨by kernel_rfl, by kernel_rfl⟩
theorem t169 : T 169 := ⟨by kernel_rfl, by kernel_rfl⟩
end Go.Proofs.Ythpokjkbcdfhiaa.Told.RF
