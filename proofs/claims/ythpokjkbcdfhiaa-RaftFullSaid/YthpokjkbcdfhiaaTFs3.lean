/- RaftFull's states, each step by evaluation. (Printed by gen_full.py.) -/
import Derived.Test.YthpokjkbcdfhiaaTFull0
namespace Go.Proofs.Ythpokjkbcdfhiaa.Told.RF
open Go Go.Proofs.Ythpokjkbcdfhiaa.Vam Go.Proofs.Ythpokjkbcdfhiaa.Told
theorem s140 : S 140 := ⟨by kernel_rfl, by kernel_rfl⟩
theorem s141 : S 141 := ⟨by kernel_rfl, by kernel_rfl⟩
theorem s142 : S 142 := ⟨by kernel_rfl, by kernel_rfl⟩
theorem s143 : S 143 := ⟨by kernel_rfl, by kernel_rfl⟩
theorem s144 : S 144 := ⟨by kernel_rfl, by kernel_rfl⟩
theorem s145 : S 145 := ⟨by kernel_rfl, by kernel_rfl⟩
theorem s146 : S 146 := ⟨by kernel_rfl, by kernel_rfl⟩
theorem s147 : S 147 := ⟨by kernel_rfl, by kernel_rfl⟩
theorem s148 : S 148 := ⟨by kernel_rfl, by kernel_rfl⟩
theorem s149 : S 149 := ⟨by kernel_rfl, by kernel_rfl⟩
theorem s150 : S 150 := ⟨by kernel_rfl, by kernel_rfl⟩
theorem s151 : S 151 := ⟨by kernel_rfl, by kernel_rfl⟩
theorem s152 : S 152 := ⟨by kernel_rfl, by kernel_rfl⟩
theorem s153 : S 153 := ⟨by kernel_rfl, by kernel_rfl⟩
theorem s154 : S 154 := ⟨by kernel_rfl, by kernel_rfl⟩
end Go.Proofs.Ythpokjkbcdfhiaa.Told.RF
