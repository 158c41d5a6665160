/- RaftFull's states, each step by evaluation. (Printed by gen_full.py.) -/
import Derived.Test.YthpokjkbcdfhiaaTFull0
namespace Go.Proofs.Ythpokjkbcdfhiaa.Told.RF
open Go Go.Proofs.Ythpokjkbcdfhiaa.Vam Go.Proofs.Ythpokjkbcdfhiaa.Told
theorem t170 : T 170 := ⟨by kernel_rfl, by kernel_rfl⟩
theorem t171 : T 171 := ⟨by kernel_rfl, by kernel_rfl⟩
theorem t172 : T 172 := ⟨by kernel_rfl, by kernel_rfl⟩
theorem t173 : T 173 := ⟨by kernel_rfl, by kernel_rfl⟩
theorem t174 : T 174 := ⟨by kernel_rfl, by kernel_rfl⟩
theorem t175 : T 175 := ⟨by kernel_rfl, by kernel_rfl⟩
theorem t176 : T 176 := ⟨by kernel_rfl, by kernel_rfl⟩
theorem t177 : T 177 := ⟨by kernel_rfl, by kernel_rfl⟩
theorem t178 : T 178 := ⟨by kernel_rfl, by kernel_rfl⟩
theorem t179 : T 179 := ⟨by kernel_rfl, by kernel_rfl⟩
theorem t180 : T 180 := ⟨by kernel_rfl, by kernel_rfl⟩
theorem t181 : T 181 := ⟨by kernel_rfl, by kernel_rfl⟩
theorem t182 : T 182 := ⟨by kernel_rfl, by kernel_rfl⟩
theorem t183 : T 183 := ⟨by kernel_rfl, by kernel_rfl⟩
theorem t184 : T 184 := ⟨by kernel_rfl, by kernel_rfl⟩
end Go.Proofs.Ythpokjkbcdfhiaa.Told.RF
