/- RaftFull's states, each step by evaluation. (Printed by gen_full.py.) -/
import Derived.Test.YthpokjkbcdfhiaaTFull0
namespace Go.Proofs.Ythpokjkbcdfhiaa.Told.RF
open Go Go.Proofs.Ythpokjkbcdfhiaa.Vam Go.Proofs.Ythpokjkbcdfhiaa.Told
theorem s185 : S 185 := ⟨by kernel_rfl, by kernel_rfl⟩
theorem s186 : S 186 := ⟨by kernel_rfl, by kernel_rfl⟩
theorem s187 : S 187 := ⟨by kernel_rfl, by kernel_rfl⟩
theorem s188 : S 188 := ⟨by kernel_rfl, by kernel_rfl⟩
theorem s189 : S 189 := ⟨by kernel_rfl, by kernel_rfl⟩
theorem s190 : S 190 := ⟨by kernel_rfl, by kernel_rfl⟩
theorem s191 : S 191 := ⟨by kernel_rfl, by kernel_rfl⟩
theorem s192 : S 192 := ⟨by kernel_rfl, by kernel_rfl⟩
theorem s193 : S 193 := ⟨by kernel_rfl, by kernel_rfl⟩
theorem s194 : S 194 := ⟨by kernel_rfl, by kernel_rfl⟩
theorem s195 : S 195 := ⟨by kernel_rfl, by kernel_rfl⟩
theorem s196 : S 196 := ⟨by kernel_rfl, by kernel_rfl⟩
theorem s197 : S 197 := ⟨by kernel_rfl, by kernel_rfl⟩
theorem s198 : S 198 := ⟨by kernel_rfl, by kernel_rfl⟩
end Go.Proofs.Ythpokjkbcdfhiaa.Told.RF
