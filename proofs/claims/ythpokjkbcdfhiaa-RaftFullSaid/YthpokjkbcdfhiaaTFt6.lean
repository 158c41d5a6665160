/- RaftFull's states, each step by evaluation. (Printed by gen_full.py.) -/
import Derived.Test.YthpokjkbcdfhiaaTFull0
namespace Go.Proofs.Ythpokjkbcdfhiaa.Told.RF
open Go Go.Proofs.Ythpokjkbcdfhiaa.Vam Go.Proofs.Ythpokjkbcdfhiaa.Told
theorem t185 : T 185 := ⟨by kernel_rfl, by kernel_rfl⟩
theorem t186 : T 186 := ⟨by kernel_rfl, by kernel_rfl⟩
theorem t187 : T 187 := ⟨by kernel_rfl, by kernel_rfl⟩
theorem t188 : T 188 := ⟨by kernel_rfl, by kernel_rfl⟩
theorem t189 : T 189 := ⟨by kernel_rfl, by kernel_rfl⟩
theorem t190 : T 190 := ⟨by kernel_rfl, by kernel_rfl⟩
theorem t191 : T 191 := ⟨by kernel_rfl, by kernel_rfl⟩
theorem t192 : T 192 := ⟨by kernel_rfl, by kernel_rfl⟩
theorem t193 : T 193 := ⟨by kernel_rfl, by kernel_rfl⟩
theorem t194 : T 194 := ⟨by kernel_rfl, by kernel_rfl⟩
theorem t195 : T 195 := ⟨by kernel_rfl, by kernel_rfl⟩
theorem t196 : T 196 := ⟨by kernel_rfl, by kernel_rfl⟩
theorem t197 : T 197 := ⟨by kernel_rfl, by kernel_rfl⟩
theorem t198 : T 198 := ⟨by kernel_rfl, by kernel_rfl⟩
theorem t199 : T 199 := ⟨by kernel_rfl, by kernel_rfl⟩
end Go.Proofs.Ythpokjkbcdfhiaa.Told.RF
