/- RaftFull's states, each step by evaluation. (Printed by gen_full.py.) -/
import Derived.Test.YthpokjkbcdfhiaaTFull0
namespace Go.Proofs.Ythpokjkbcdfhiaa.Told.RF
open Go Go.Proofs.Ythpokjkbcdfhiaa.Vam Go.Proofs.Ythpokjkbcdfhiaa.Told
theorem s170 : S 170 := ⟨by kernel_rfl, by kernel_rfl⟩
theorem s171 : S 171 := ⟨by kernel_rfl, by kernel_rfl⟩
theorem s172 : S 172 := ⟨by kernel_rfl, by kernel_rfl⟩
theorem s173 : S 173 := ⟨by kernel_rfl, by kernel_rfl⟩
theorem s174 : S 174 := ⟨by kernel_rfl, by kernel_rfl⟩
theorem s175 : S 175 := ⟨by kernel_rfl, by kernel_rfl⟩
theorem s176 : S 176 := ⟨by kernel_rfl, by kernel_rfl⟩
theorem s177 : S 177 := ⟨by kernel_rfl, by kernel_rfl⟩
theorem s178 : S 178 := ⟨by kernel_rfl, by kernel_rfl⟩
theorem s179 : S 179 := ⟨by kernel_rfl, by kernel_rfl⟩
theorem s180 : S 180 := ⟨by kernel_rfl, by kernel_rfl⟩
theorem s181 : S 181 := ⟨by kernel_rfl, by kernel_rfl⟩
theorem s182 : S 182 := ⟨by kernel_rfl, by kernel_rfl⟩
theorem s183 : S 183 := ⟨by kernel_rfl, by kernel_rfl⟩
theorem s184 : S 184 := ⟨by kernel_rfl, by kernel_rfl⟩
end Go.Proofs.Ythpokjkbcdfhiaa.Told.RF
