/- RaftFull's states, each step by evaluation. (Printed by gen_full.py.) -/
import Derived.Test.YthpokjkbcdfhiaaTFull0
namespace Go.Proofs.Ythpokjkbcdfhiaa.Told.RF
open Go Go.Proofs.Ythpokjkbcdfhiaa.Vam Go.Proofs.Ythpokjkbcdfhiaa.Told
theorem s155 : S 155 := ⟨by kernel_rfl, by kernel_rfl⟩
theorem s156 : S 156 := ⟨by kernel_rfl, by kernel_rfl⟩
theorem s157 : S 157 := ⟨by kernel_rfl, by kernel_rfl⟩
theorem s158 : S 158 := ⟨by kernel_rfl, by kernel_rfl⟩
theorem s159 : S 159 := ⟨by kernel_rfl, by kernel_rfl⟩
theorem s160 : S 160 := ⟨by kernel_rfl, by kernel_rfl⟩
theorem s161 : S 161 := ⟨by kernel_rfl, by kernel_rfl⟩
theorem s162 : S 162 := ⟨by kernel_rfl, by kernel_rfl⟩
theorem s163 : S 163 := ⟨by kernel_rfl, by kernel_rfl⟩
theorem s164 : S 164 := ⟨by kernel_rfl, by kernel_rfl⟩
theorem s165 : S 165 := ⟨by kernel_rfl, by kernel_rfl⟩
theorem s166 : S 166 := ⟨by kernel_rfl, by kernel_rfl⟩
theorem s167 : S 167 := ⟨by kernel_rfl, by kernel_rfl⟩
theorem s168 : S 168 := ⟨by kernel_rfl, by kernel_rfl⟩
theorem s169 : S 169 := ⟨by kernel_rfl, by kernel_rfl⟩
end Go.Proofs.Ythpokjkbcdfhiaa.Told.RF
