import Derived.Test.YtbpmepgnjanhnaaGreatS3
import Derived.Test.YtbpmepgnjanhnaaGreatRows
import Derived.KernelRfl
set_option linter.unusedVariables false
set_option linter.unusedSimpArgs false
set_option linter.unusedSectionVars false
namespace Go.Proofs.YtbpmepgnjanhnaaGreat
open Go.RowKit
def tyRows:List Ty:=[
 ⟨1,0,false,false,some (.tuple #[]),none,[]⟩,
 ⟨1,8,false,false,some .nilFunc,none,[]⟩,
 ⟨1,8,false,false,some (.int .i64 0),none,[]⟩,
 ⟨1,8,false,false,some (.int .i64 0),none,[]⟩,
 ⟨1,1,false,false,some (.bool false),none,[]⟩,
 ⟨1,1,false,false,some (.int .u8 0),none,[]⟩,
 ⟨1,1,false,false,some (.int .u8 0),none,[]⟩,
 ⟨4,24,true,false,some (.agg #[.int .i64 0,.int .i64 0,.bool false,.int .u8 0]),none,[(0,1),(1,1),(2,1),(3,1)]⟩,
 ⟨4,24,true,false,some (.agg #[.int .i64 0,.int .i64 0,.bool false,.int .u8 0]),none,[(0,1),(1,1),(2,1),(3,1)]⟩,
 ⟨1,16,false,true,some (.string ⟨#[]⟩),none,[]⟩,
 ⟨1,16,false,true,some (.string ⟨#[]⟩),none,[]⟩,
 ⟨1,16,false,true,some (.string ⟨#[]⟩),none,[]⟩,
 ⟨1,8,false,false,some (.int .u64 0),none,[]⟩,
 ⟨2,24,true,false,some (.agg #[.string ⟨#[]⟩,.int .u64 0]),none,[(0,1),(1,1)]⟩,
 ⟨2,24,true,false,some (.agg #[.string ⟨#[]⟩,.int .u64 0]),none,[(0,1),(1,1)]⟩,
 ⟨1,8,false,false,some (.pointer none),none,[]⟩,
 ⟨1,8,false,false,some (.pointer none),none,[]⟩,
 ⟨1,8,false,false,some (.pointer none),none,[]⟩,
 ⟨1,8,true,false,some (.agg #[.pointer none]),none,[(0,1)]⟩,
 ⟨1,8,true,false,some (.agg #[.pointer none]),none,[(0,1)]⟩,
 ⟨1,16,false,false,some .nilIface,none,[]⟩,
 ⟨1,4,false,false,some (.int .i32 0),none,[]⟩,
 ⟨1,24,false,false,some (.slice none 0 0),some 68,[]⟩,
 ⟨4,48,true,false,some (.agg #[.int .i64 0,.int .i64 0,.int .i64 0,.slice none 0 0]),none,[(0,1),(1,1),(2,1),(3,1)]⟩,
 ⟨4,48,true,false,some (.agg #[.int .i64 0,.int .i64 0,.int .i64 0,.slice none 0 0]),none,[(0,1),(1,1),(2,1),(3,1)]⟩,
 ⟨1,24,false,false,some (.slice none 0 0),some 3,[]⟩,
 ⟨1,8,false,false,some .nilFunc,none,[]⟩,
 ⟨1,8,false,false,some .nilFunc,none,[]⟩,
 ⟨1,8,false,false,some .nilFunc,none,[]⟩,
 ⟨1,24,false,false,some (.slice none 0 0),some 39,[]⟩,
 ⟨2,16,true,false,some (.agg #[.int .i64 0,.int .i64 0]),none,[(0,1),(1,1)]⟩,
 ⟨2,16,true,false,some (.agg #[.int .i64 0,.int .i64 0]),none,[(0,1),(1,1)]⟩,
 ⟨1,0,false,false,some (.tuple #[.slice none 0 0,.agg #[.int .i64 0,.int .i64 0]]),none,[]⟩,
 ⟨1,8,false,false,some .nilFunc,none,[]⟩,
 ⟨1,8,false,false,some .nilFunc,none,[]⟩,
 ⟨1,8,false,false,some .nilFunc,none,[]⟩,
 ⟨1,24,false,false,some (.slice none 0 0),some 75,[]⟩,
 ⟨1,24,false,false,some (.slice none 0 0),some 56,[]⟩,
 ⟨6,96,true,false,some (.agg #[.int .i64 0,.int .i64 0,.int .i64 0,.slice none 0 0,.slice none 0 0,.slice none 0 0]),none,[(0,4),(4,1),(5,1)]⟩,
 ⟨6,96,true,false,some (.agg #[.int .i64 0,.int .i64 0,.int .i64 0,.slice none 0 0,.slice none 0 0,.slice none 0 0]),none,[(0,4),(4,1),(5,1)]⟩,
 ⟨1,8,false,false,some .nilFunc,none,[]⟩,
 ⟨1,8,false,false,some .nilFunc,none,[]⟩,
 ⟨1,0,false,false,some (.tuple #[.slice none 0 0,.agg #[.int .i64 0,.int .i64 0]]),none,[]⟩,
 ⟨1,8,false,false,some .nilFunc,none,[]⟩,
 ⟨1,8,false,false,some .nilFunc,none,[]⟩,
 ⟨1,8,false,false,some .nilFunc,none,[]⟩,
 ⟨1,8,false,false,some .nilFunc,none,[]⟩,
 ⟨1,8,false,false,some .nilFunc,none,[]⟩,
 ⟨1,8,false,false,some (.pointer none),none,[]⟩,
 ⟨1,0,false,false,some (.tuple #[.pointer none,.agg #[.int .i64 0,.int .i64 0]]),none,[]⟩,
 ⟨1,8,false,false,some .nilFunc,none,[]⟩,
 ⟨1,8,false,false,some .nilFunc,none,[]⟩,
 ⟨1,8,false,false,some .nilFunc,none,[]⟩,
 ⟨1,8,false,false,some (.int .u64 0),none,[]⟩,
 ⟨1,8,false,false,some .nilFunc,none,[]⟩,
 ⟨2,32,true,false,some (.agg #[.int .i64 0,.slice none 0 0]),none,[(0,1),(1,1)]⟩,
 ⟨2,32,true,false,some (.agg #[.int .i64 0,.slice none 0 0]),none,[(0,1),(1,1)]⟩,
 ⟨1,8,false,false,some .nilFunc,none,[]⟩,
 ⟨1,8,false,false,some .nilFunc,none,[]⟩,
 ⟨1,8,false,false,some .nilFunc,none,[]⟩,
 ⟨1,0,false,false,some (.tuple #[.agg #[.int .i64 0,.slice none 0 0],.agg #[.int .i64 0,.int .i64 0]]),none,[]⟩,
 ⟨1,8,false,false,some .nilFunc,none,[]⟩,
 ⟨1,8,false,false,some .nilFunc,none,[]⟩,
 ⟨1,8,false,false,some .nilFunc,none,[]⟩,
 ⟨1,8,false,false,some .nilFunc,none,[]⟩,
 ⟨1,8,false,false,some .nilFunc,none,[]⟩,
 ⟨1,8,false,false,some .nilFunc,none,[]⟩,
 ⟨2,32,true,false,some (.agg #[.int .i64 0,.slice none 0 0]),none,[(0,1),(1,1)]⟩,
 ⟨2,32,true,false,some (.agg #[.int .i64 0,.slice none 0 0]),none,[(0,1),(1,1)]⟩,
 ⟨1,8,false,false,some .nilFunc,none,[]⟩,
 ⟨1,0,false,false,some (.tuple #[.agg #[.int .i64 0,.int .i64 0,.int .i64 0,.slice none 0 0,.slice none 0 0,.slice none 0 0],.agg #[.int .i64 0,.int .i64 0]]),none,[]⟩,
 ⟨1,8,false,false,some .nilFunc,none,[]⟩,
 ⟨1,8,false,false,some .nilFunc,none,[]⟩,
 ⟨1,8,false,false,some .nilFunc,none,[]⟩,
 ⟨1,8,false,false,some .nilFunc,none,[]⟩,
 ⟨1,24,false,false,some (.slice none 0 0),some 102,[]⟩,
 ⟨1,8,false,false,some (.pointer none),none,[]⟩,
 ⟨1,0,false,false,some (.tuple #[.pointer none,.agg #[.int .i64 0,.int .i64 0]]),none,[]⟩,
 ⟨1,8,false,false,some .nilFunc,none,[]⟩,
 ⟨6,64,true,false,some (.agg #[.pointer none,.int .i64 0,.int .i64 0,.int .i64 0,.slice none 0 0,.int .i64 0]),none,[(0,1),(1,4),(5,1)]⟩,
 ⟨6,64,true,false,some (.agg #[.pointer none,.int .i64 0,.int .i64 0,.int .i64 0,.slice none 0 0,.int .i64 0]),none,[(0,1),(1,4),(5,1)]⟩,
 ⟨1,8,false,false,some .nilFunc,none,[]⟩,
 ⟨1,8,false,false,some .nilFunc,none,[]⟩,
 ⟨1,8,false,false,some .nilFunc,none,[]⟩,
 ⟨1,8,false,false,some .nilFunc,none,[]⟩,
 ⟨1,0,false,false,some (.tuple #[.slice none 0 0,.agg #[.int .i64 0,.int .i64 0]]),none,[]⟩,
 ⟨1,8,false,false,some .nilFunc,none,[]⟩,
 ⟨1,8,false,false,some .nilFunc,none,[]⟩,
 ⟨1,24,false,false,some (.slice none 0 0),some 4,[]⟩,
 ⟨1,8,false,false,some (.map none),none,[]⟩,
 ⟨7,104,true,false,some (.agg #[.int .i64 0,.int .i64 0,.int .i64 0,.slice none 0 0,.slice none 0 0,.slice none 0 0,.map none]),none,[(0,4),(4,1),(5,1),(6,1)]⟩,
 ⟨7,104,true,false,some (.agg #[.int .i64 0,.int .i64 0,.int .i64 0,.slice none 0 0,.slice none 0 0,.slice none 0 0,.map none]),none,[(0,4),(4,1),(5,1),(6,1)]⟩,
 ⟨1,8,false,false,some .nilFunc,none,[]⟩,
 ⟨1,8,false,false,some .nilFunc,none,[]⟩,
 ⟨1,8,false,false,some .nilFunc,none,[]⟩,
 ⟨1,8,false,false,some .nilFunc,none,[]⟩,
 ⟨1,8,false,false,some .nilFunc,none,[]⟩,
 ⟨1,8,false,false,some .nilFunc,none,[]⟩,
 ⟨1,8,false,false,some .nilFunc,none,[]⟩,
 ⟨1,8,false,false,some .nilFunc,none,[]⟩,
 ⟨1,8,false,false,some .nilFunc,none,[]⟩,
 ⟨3,40,true,false,some (.agg #[.int .i64 0,.int .i64 0,.slice none 0 0]),none,[(0,1),(1,1),(2,1)]⟩,
 ⟨3,40,true,false,some (.agg #[.int .i64 0,.int .i64 0,.slice none 0 0]),none,[(0,1),(1,1),(2,1)]⟩,
 ⟨0,0,true,false,some (.agg #[]),none,[]⟩,
 ⟨0,0,true,false,some (.agg #[]),none,[]⟩,
 ⟨1,0,false,false,some (.tuple #[.agg #[],.bool false]),none,[]⟩,
 ⟨1,8,false,false,some .nilFunc,none,[]⟩,
 ⟨1,8,false,false,some (.pointer none),none,[]⟩,
 ⟨1,1,true,false,some (.agg #[.bool false]),none,[(0,1)]⟩,
 ⟨1,1,true,false,some (.agg #[.bool false]),none,[(0,1)]⟩,
 ⟨1,8,false,false,some .nilFunc,none,[]⟩,
 ⟨1,8,false,false,some .nilFunc,none,[]⟩,
 ⟨1,8,false,false,some .nilFunc,none,[]⟩,
 ⟨1,8,false,false,some .nilFunc,none,[]⟩,
 ⟨1,24,false,false,some (.slice none 0 0),some 118,[]⟩,
 ⟨1,8,false,false,some .nilFunc,none,[]⟩,
 ⟨1,8,false,false,some .nilFunc,none,[]⟩,
 ⟨1,8,false,false,some (.int .u64 0),none,[]⟩,
 ⟨1,8,false,false,some (.int .u64 0),none,[]⟩,
 ⟨1,8,false,false,some .nilFunc,none,[]⟩,
 ⟨1,8,false,false,some .nilFunc,none,[]⟩,
 ⟨1,8,false,false,some .nilFunc,none,[]⟩,
 ⟨3,24,true,false,some (.agg #[.int .i64 0,.int .i64 0,.int .i64 0]),none,[(0,1),(1,1),(2,1)]⟩,
 ⟨3,24,true,false,some (.agg #[.int .i64 0,.int .i64 0,.int .i64 0]),none,[(0,1),(1,1),(2,1)]⟩,
 ⟨1,0,false,false,some (.tuple #[.int .i64 0,.bool false]),none,[]⟩,
 ⟨1,8,false,false,some .nilFunc,none,[]⟩,
 ⟨1,8,false,false,some .nilFunc,none,[]⟩,
 ⟨1,8,false,false,some .nilFunc,none,[]⟩,
 ⟨1,8,false,false,some .nilFunc,none,[]⟩,
 ⟨1,8,false,false,some .nilFunc,none,[]⟩,
 ⟨1,8,false,false,some .nilFunc,none,[]⟩,
 ⟨1,8,false,false,some (.pointer none),none,[]⟩,
 ⟨1,8,false,false,some .nilFunc,none,[]⟩,
 ⟨1,0,false,false,some (.tuple #[.agg #[.int .i64 0,.slice none 0 0],.bool false]),none,[]⟩,
 ⟨1,8,false,false,some (.pointer none),none,[]⟩,
 ⟨2,16,true,false,some (.agg #[.pointer none,.int .i64 0]),none,[(0,1),(1,1)]⟩,
 ⟨2,16,true,false,some (.agg #[.pointer none,.int .i64 0]),none,[(0,1),(1,1)]⟩,
 ⟨1,8,false,false,some .nilFunc,none,[]⟩,
 ⟨1,0,false,false,some (.tuple #[.slice none 0 0,.bool false]),none,[]⟩,
 ⟨1,8,false,false,some .nilFunc,none,[]⟩,
 ⟨1,8,false,false,some .nilFunc,none,[]⟩,
 ⟨1,8,false,false,some (.pointer none),none,[]⟩,
 ⟨1,8,false,false,some .nilFunc,none,[]⟩,
 ⟨7,88,true,false,some (.agg #[.int .i64 0,.int .i64 0,.int .i64 0,.slice none 0 0,.slice none 0 0,.int .i64 0,.bool false]),none,[(0,4),(4,1),(5,1),(6,1)]⟩,
 ⟨7,88,true,false,some (.agg #[.int .i64 0,.int .i64 0,.int .i64 0,.slice none 0 0,.slice none 0 0,.int .i64 0,.bool false]),none,[(0,4),(4,1),(5,1),(6,1)]⟩,
 ⟨1,8,false,false,some .nilFunc,none,[]⟩,
 ⟨1,8,false,false,some .nilFunc,none,[]⟩,
 ⟨1,8,false,false,some .nilFunc,none,[]⟩,
 ⟨1,8,false,false,some .nilFunc,none,[]⟩,
 ⟨1,8,false,false,some .nilFunc,none,[]⟩,
 ⟨1,0,false,false,some (.tuple #[.slice none 0 0,.slice none 0 0]),none,[]⟩,
 ⟨1,8,false,false,some .nilFunc,none,[]⟩,
 ⟨1,8,false,false,some .nilFunc,none,[]⟩,
 ⟨1,8,false,false,some .nilFunc,none,[]⟩,
 ⟨1,8,false,false,some .nilFunc,none,[]⟩,
 ⟨1,8,false,false,some .nilFunc,none,[]⟩,
 ⟨1,8,false,false,some .nilFunc,none,[]⟩,
 ⟨1,8,false,false,some (.pointer none),none,[]⟩,
 ⟨1,24,false,false,some (.slice none 0 0),some 37,[]⟩,
 ⟨11,168,true,false,some (.agg #[.int .i64 0,.int .i64 0,.int .i64 0,.slice none 0 0,.slice none 0 0,.int .i64 0,.int .i64 0,.int .i64 0,.slice none 0 0,.slice none 0 0,.slice none 0 0]),none,[(0,4),(4,1),(5,6)]⟩,
 ⟨11,168,true,false,some (.agg #[.int .i64 0,.int .i64 0,.int .i64 0,.slice none 0 0,.slice none 0 0,.int .i64 0,.int .i64 0,.int .i64 0,.slice none 0 0,.slice none 0 0,.slice none 0 0]),none,[(0,4),(4,1),(5,6)]⟩,
 ⟨2,16,true,false,some (.agg #[.int .i64 0,.int .i64 0]),none,[(0,1),(1,1)]⟩,
 ⟨1,0,false,false,some (.tuple #[.agg #[.int .i64 0,.int .i64 0],.bool false]),none,[]⟩,
 ⟨1,8,false,false,some .nilFunc,none,[]⟩,
 ⟨1,8,false,false,some (.pointer none),none,[]⟩,
 ⟨11,168,true,false,some (.agg #[.int .i64 0,.int .i64 0,.int .i64 0,.slice none 0 0,.slice none 0 0,.int .i64 0,.int .i64 0,.int .i64 0,.slice none 0 0,.slice none 0 0,.slice none 0 0]),none,[(0,4),(4,1),(5,6)]⟩,
 ⟨11,168,true,false,some (.agg #[.int .i64 0,.int .i64 0,.int .i64 0,.slice none 0 0,.slice none 0 0,.int .i64 0,.int .i64 0,.int .i64 0,.slice none 0 0,.slice none 0 0,.slice none 0 0]),none,[(0,4),(4,1),(5,6)]⟩,
 ⟨1,8,false,false,some .nilFunc,none,[]⟩,
 ⟨1,8,false,false,some .nilFunc,none,[]⟩,
 ⟨1,8,false,false,some (.pointer none),none,[]⟩,
 ⟨8,128,true,false,some (.agg #[.int .i64 0,.int .i64 0,.int .i64 0,.slice none 0 0,.slice none 0 0,.slice none 0 0,.slice none 0 0,.bool false]),none,[(0,6),(6,1),(7,1)]⟩,
 ⟨8,128,true,false,some (.agg #[.int .i64 0,.int .i64 0,.int .i64 0,.slice none 0 0,.slice none 0 0,.slice none 0 0,.slice none 0 0,.bool false]),none,[(0,6),(6,1),(7,1)]⟩,
 ⟨1,8,false,false,some .nilFunc,none,[]⟩,
 ⟨1,8,false,false,some .nilFunc,none,[]⟩,
 ⟨1,8,false,false,some (.pointer none),none,[]⟩,
 ⟨1,24,false,false,some (.slice none 0 0),some 178,[]⟩,
 ⟨5,72,true,false,some (.agg #[.int .i64 0,.int .i64 0,.int .i64 0,.slice none 0 0,.slice none 0 0]),none,[(0,4),(4,1)]⟩,
 ⟨5,72,true,false,some (.agg #[.int .i64 0,.int .i64 0,.int .i64 0,.slice none 0 0,.slice none 0 0]),none,[(0,4),(4,1)]⟩,
 ⟨1,24,false,false,some (.slice none 0 0),some 181,[]⟩,
 ⟨1,8,false,false,some .nilFunc,none,[]⟩,
 ⟨2,48,true,false,some (.agg #[.slice none 0 0,.slice none 0 0]),none,[(0,1),(1,1)]⟩,
 ⟨2,48,true,false,some (.agg #[.slice none 0 0,.slice none 0 0]),none,[(0,1),(1,1)]⟩,
 ⟨1,8,false,false,some (.pointer none),none,[]⟩,
 ⟨1,24,false,false,some (.slice none 0 0),some 186,[]⟩,
 ⟨2,32,true,false,some (.agg #[.slice none 0 0,.bool false]),none,[(0,1),(1,1)]⟩,
 ⟨2,32,true,false,some (.agg #[.slice none 0 0,.bool false]),none,[(0,1),(1,1)]⟩,
 ⟨1,24,false,false,some (.slice none 0 0),some 188,[]⟩,
 ⟨2,48,true,false,some (.agg #[.slice none 0 0,.slice none 0 0]),none,[(0,1),(1,1)]⟩,
 ⟨2,48,true,false,some (.agg #[.slice none 0 0,.slice none 0 0]),none,[(0,1),(1,1)]⟩,
 ⟨1,8,false,false,some .nilFunc,none,[]⟩,
 ⟨1,8,false,false,some .nilFunc,none,[]⟩,
 ⟨1,8,false,false,some .nilFunc,none,[]⟩,
 ⟨1,8,false,false,some .nilFunc,none,[]⟩,
 ⟨1,8,false,false,some .nilFunc,none,[]⟩,
 ⟨1,24,false,false,some (.slice none 0 0),some 195,[]⟩,
 ⟨1,24,false,false,some (.slice none 0 0),some 197,[]⟩,
 ⟨1,8,false,false,some .nilFunc,none,[]⟩,
 ⟨1,24,false,false,some (.slice none 0 0),some 3,[]⟩,
 ⟨1,8,false,false,some .nilFunc,none,[]⟩,
 ⟨1,24,false,false,some (.slice none 0 0),some 202,[]⟩,
 ⟨1,8,false,false,some .nilFunc,none,[]⟩,
 ⟨1,8,false,false,some .nilFunc,none,[]⟩,
 ⟨1,24,false,false,some (.slice none 0 0),some 204,[]⟩,
 ⟨2,48,true,false,some (.agg #[.slice none 0 0,.slice none 0 0]),none,[(0,1),(1,1)]⟩,
 ⟨2,48,true,false,some (.agg #[.slice none 0 0,.slice none 0 0]),none,[(0,1),(1,1)]⟩,
 ⟨1,8,false,false,some .nilFunc,none,[]⟩,
 ⟨1,8,false,false,some .nilFunc,none,[]⟩,
 ⟨1,8,false,false,some .nilFunc,none,[]⟩,
 ⟨1,8,false,false,some .nilFunc,none,[]⟩,
 ⟨1,8,false,false,some .nilFunc,none,[]⟩,
 ⟨1,8,false,false,some .nilFunc,none,[]⟩,
 ⟨1,8,false,false,some .nilFunc,none,[]⟩,
 ⟨1,8,false,false,some .nilFunc,none,[]⟩,
 ⟨1,8,false,false,some (.int .i64 0),none,[]⟩,
 ⟨1,0,false,false,some (.tuple #[.int .i64 0,.int .i64 0]),none,[]⟩,
 ⟨1,8,false,false,some .nilFunc,none,[]⟩,
 ⟨1,8,false,false,some .nilFunc,none,[]⟩,
 ⟨1,8,false,false,some .nilFunc,none,[]⟩,
 ⟨1,8,false,false,some .nilFunc,none,[]⟩,
 ⟨1,8,false,false,some .nilFunc,none,[]⟩,
 ⟨1,4,false,false,some (.int .u32 0),none,[]⟩,
 ⟨1,8,false,false,some .nilFunc,none,[]⟩,
 ⟨1,8,false,false,some .nilFunc,none,[]⟩,
 ⟨1,8,false,false,some .nilFunc,none,[]⟩,
 ⟨1,8,false,false,some .nilFunc,none,[]⟩,
 ⟨1,8,false,false,some .nilFunc,none,[]⟩,
 ⟨1,8,false,false,some .nilFunc,none,[]⟩,
 ⟨1,8,false,false,some .nilFunc,none,[]⟩,
 ⟨1,24,false,false,some (.slice none 0 0),some 231,[]⟩,
 ⟨7,104,true,false,some (.agg #[.int .i64 0,.int .i64 0,.int .i64 0,.slice none 0 0,.slice none 0 0,.int .i64 0,.slice none 0 0]),none,[(0,4),(4,1),(5,1),(6,1)]⟩,
 ⟨7,104,true,false,some (.agg #[.int .i64 0,.int .i64 0,.int .i64 0,.slice none 0 0,.slice none 0 0,.int .i64 0,.slice none 0 0]),none,[(0,4),(4,1),(5,1),(6,1)]⟩,
 ⟨1,24,false,false,some (.slice none 0 0),some 25,[]⟩,
 ⟨1,8,false,false,some .nilFunc,none,[]⟩,
 ⟨1,8,false,false,some .nilFunc,none,[]⟩,
 ⟨1,8,false,false,some .nilFunc,none,[]⟩,
 ⟨1,8,false,false,some .nilFunc,none,[]⟩,
 ⟨1,8,false,false,some .nilFunc,none,[]⟩,
 ⟨1,8,false,false,some .nilFunc,none,[]⟩,
 ⟨1,8,false,false,some .nilFunc,none,[]⟩,
 ⟨1,8,false,false,some .nilFunc,none,[]⟩,
 ⟨1,8,false,false,some .nilFunc,none,[]⟩,
 ⟨1,8,false,false,some .nilFunc,none,[]⟩,
 ⟨1,8,false,false,some .nilFunc,none,[]⟩,
 ⟨1,8,false,false,some .nilFunc,none,[]⟩,
 ⟨1,8,false,false,some .nilFunc,none,[]⟩,
 ⟨1,8,false,false,some .nilFunc,none,[]⟩,
 ⟨1,8,false,false,some .nilFunc,none,[]⟩,
 ⟨1,8,false,false,some .nilFunc,none,[]⟩,
 ⟨1,8,false,false,some (.int .u64 0),none,[]⟩,
 ⟨1,8,false,false,some .nilFunc,none,[]⟩,
 ⟨1,8,false,false,some .nilFunc,none,[]⟩,
 ⟨1,8,false,false,some .nilFunc,none,[]⟩,
 ⟨1,8,false,false,some (.pointer none),none,[]⟩,
 ⟨1,8,false,false,some .nilFunc,none,[]⟩,
 ⟨1,8,false,false,some .nilFunc,none,[]⟩,
 ⟨1,8,false,false,some .nilFunc,none,[]⟩,
 ⟨1,8,false,false,some .nilFunc,none,[]⟩,
 ⟨1,8,false,false,some .nilFunc,none,[]⟩,
 ⟨1,8,false,false,some .nilFunc,none,[]⟩,
 ⟨1,8,false,false,some (.pointer none),none,[]⟩,
 ⟨1,0,false,false,some (.tuple #[.int .i64 0,.int .i64 0]),none,[]⟩,
 ⟨1,8,false,false,some .nilFunc,none,[]⟩,
 ⟨1,8,false,false,some .nilFunc,none,[]⟩,
 ⟨4,40,true,false,some (.agg #[.pointer none,.pointer none,.pointer none,.string ⟨#[]⟩]),none,[(0,1),(1,1),(2,1),(3,1)]⟩,
 ⟨4,40,true,false,some (.agg #[.pointer none,.pointer none,.pointer none,.string ⟨#[]⟩]),none,[(0,1),(1,1),(2,1),(3,1)]⟩,
 ⟨0,0,true,false,some (.agg #[]),none,[]⟩,
 ⟨0,0,true,false,some (.agg #[]),none,[(0,0)]⟩,
 ⟨0,0,true,false,some (.agg #[]),none,[(0,0)]⟩,
 ⟨1,1,false,false,some (.int .u8 0),none,[]⟩,
 ⟨1,1,false,false,some (.int .u8 0),none,[]⟩,
 ⟨1,8,false,false,some .nilFunc,none,[]⟩,
 ⟨1,8,false,false,some (.pointer none),none,[]⟩,
 ⟨1,4,false,false,some (.int .i32 0),none,[]⟩,
 ⟨1,4,false,false,some (.int .i32 0),none,[]⟩,
 ⟨11,48,true,false,some (.agg #[.int .u64 0,.int .u64 0,.int .u32 0,.int .u8 0,.int .u8 0,.int .u8 0,.int .u8 0,.nilFunc,.pointer none,.int .i32 0,.int .i32 0]),none,[(0,1),(1,1),(2,1),(3,1),(4,1),(5,1),(6,1),(7,1),(8,1),(9,1),(10,1)]⟩,
 ⟨11,48,true,false,some (.agg #[.int .u64 0,.int .u64 0,.int .u32 0,.int .u8 0,.int .u8 0,.int .u8 0,.int .u8 0,.nilFunc,.pointer none,.int .i32 0,.int .i32 0]),none,[(0,1),(1,1),(2,1),(3,1),(4,1),(5,1),(6,1),(7,1),(8,1),(9,1),(10,1)]⟩,
 ⟨1,8,false,false,some (.pointer none),none,[]⟩]
theorem Zrs:tyRows.map some=(List.range tyRows.length).map (tyOf Tryz.prog):=by kernel_rfl
def TY:TT Tryz.prog:=⟨tyRows,Zrs⟩
theorem hmix:Tryz.prog.follows .mixedOrders=true:=by kernel_rfl
end Go.Proofs.YtbpmepgnjanhnaaGreat
namespace Go.Proofs.YtbpmepgnjanhnaaGreat
open Go.RowKit
structure Rule where
 left:Int
 right:List Int
deriving DecidableEq,Inhabited
structure Gram where
 vars:Int
 terms:Int
 start:Int
 rules:List Rule
deriving DecidableEq,Inhabited
inductive Frag where
 | mk (op n:Int) (l:List Frag)
inductive Tree where
 | mk (rule:Int) (kids:List Tree)
structure Step where
 g:Gram
 frags:List (List Frag)
 empty:List Tree
structure Zb5 where
 code:Int
 at_:Int
deriving DecidableEq,Inhabited
instance:Inhabited Frag:=⟨.mk 0 0 []⟩
instance:Inhabited Tree:=⟨.mk 0 []⟩
def Frag.op:Frag→Int|.mk o _ _=>o
def Frag.n:Frag→Int|.mk _ n _=>n
def Frag.l:Frag→List Frag|.mk _ _ l=>l
def Tree.rule:Tree→Int|.mk r _=>r
def Tree.kids:Tree→List Tree|.mk _ k=>k
def Zbu (t:Bool) (r:Rule):D:=.agg [iD r.left,ints t r.right]
abbrev ZaT (t:Bool) (rs:List Rule):D:=.sl t 2 (rs.map (Zbu t))
def ZaH (t:Bool) (g:Gram):D:=.agg [iD g.vars,iD g.terms,iD g.start,ZaT t g.rules]
mutual
def ZaV (t:Bool):Frag→D
 | .mk o n l=>.agg [iD o,iD n,.sl t 3 (Zed t l)]
def Zed (t:Bool):List Frag→List D
 | []=>[]
 | f::l=>ZaV t f::Zed t l
end
abbrev Zam (t:Bool) (l:List Frag):D:=.sl t 3 (l.map (ZaV t))
mutual
def Zat (t:Bool):Tree→D
 | .mk r k=>.agg [iD r,.sl t 2 (Zgw t k)]
def Zgw (t:Bool):List Tree→List D
 | []=>[]
 | x::l=>Zat t x::Zgw t l
end
abbrev Zal (t:Bool) (l:List Tree):D:=.sl t 2 (l.map (Zat t))
theorem ZcU (t:Bool):∀ l:List Frag,Zed t l=l.map (ZaV t)
 | []=>rfl
 | f::l=>by simp[Zed,ZcU t l]
theorem Zga (t:Bool):∀ l:List Tree,Zgw t l=l.map (Zat t)
 | []=>rfl
 | f::l=>by simp[Zgw,Zga t l]
theorem ZtA (t:Bool) (f:Frag):ZaV t f=.agg [iD f.op,iD f.n,Zam t f.l]:=by
 cases f;simp[ZaV,ZcU,Frag.op,Frag.n,Frag.l]
theorem Zbi (t:Bool) (x:Tree):Zat t x=.agg [iD x.rule,Zal t x.kids]:=by
 cases x;simp[Zat,Zga,Tree.rule,Tree.kids]
def Zbv (t:Bool) (s:Step):D:=.agg [iD s.g.vars,iD s.g.terms,iD s.g.start,ZaT t s.g.rules,.sl t 1 (s.frags.map (Zam t)),Zal t s.empty]
def ZaN (f:Zb5):D:=.agg [iD f.code,iD f.at_]
theorem Zrt (t:Bool) (r:Rule):(Zbu t r).view=Zbu true r:=by simp[Zbu,D.view,D.views,ZcV,iD]
theorem ZpE (t:Bool) (rs:List Rule):D.views (rs.map (Zbu t))=rs.map (Zbu true):=views_map (Zrt t) rs
mutual
theorem ZhT (t:Bool):∀ f:Frag,(ZaV t f).view=ZaV true f
 | .mk o n l=>by simp[ZaV,D.view,D.views,Zjl t l,iD]
theorem Zjl (t:Bool):∀ l:List Frag,D.views (Zed t l)=Zed true l
 | []=>rfl
 | f::l=>by simp[Zed,D.views,ZhT t f,Zjl t l]
end
mutual
theorem ZhU (t:Bool):∀ f:Tree,(Zat t f).view=Zat true f
 | .mk o l=>by simp[Zat,D.view,D.views,Zjm t l,iD]
theorem Zjm (t:Bool):∀ l:List Tree,D.views (Zgw t l)=Zgw true l
 | []=>rfl
 | f::l=>by simp[Zgw,D.views,ZhU t f,Zjm t l]
end
theorem Zet (xs:List Int):D.cleans (xs.map iD):=Zex ZtM xs
theorem ZpF (r:Rule):(Zbu false r).clean:=⟨trivial,⟨rfl,Zet _⟩,trivial⟩
theorem ZeV (rs:List Rule):D.cleans (rs.map (Zbu false)):=Zex ZpF rs
mutual
theorem ZpG:∀ f:Frag,(ZaV false f).clean
 | .mk o n l=>⟨trivial,trivial,⟨rfl,ZeW l⟩,trivial⟩
theorem ZeW:∀ l:List Frag,D.cleans (Zed false l)
 | []=>trivial
 | f::l=>⟨ZpG f,ZeW l⟩
end
mutual
theorem ZpH:∀ f:Tree,(Zat false f).clean
 | .mk o l=>⟨trivial,⟨rfl,ZeX l⟩,trivial⟩
theorem ZeX:∀ l:List Tree,D.cleans (Zgw false l)
 | []=>trivial
 | f::l=>⟨ZpH f,ZeX l⟩
end
abbrev ZaE (t:Bool) (x:Tree):D:=.agg [iD x.rule,Zal t x.kids]
theorem Za4 (t:Bool) (x:Tree):Zat t x=ZaE t x:=Zbi t x
abbrev Zru (t:Bool) (x:Frag):D:=.agg [iD x.op,iD x.n,Zam t x.l]
theorem ZbG (t:Bool) (x:Frag):ZaV t x=Zru t x:=ZtA t x
inductive Zeu:List D→List D→Prop
 | rules (t:Bool) (rs:List Rule):Zeu (rs.map (Zbu t)) (rs.map (Zbu true))
 | trees (t:Bool) (rs:List Tree):Zeu (rs.map (Zat t)) (rs.map (Zat true))
 | frags (t:Bool) (rs:List Frag):Zeu (rs.map (ZaV t)) (rs.map (ZaV true))
 | tree1 (t:Bool) (x:Tree):Zeu [ZaE t x] [ZaE true x]
 | frag1 (t:Bool) (x:Frag):Zeu [Zru t x] [Zru true x]
theorem ZaB {xs ys:List D} (h:Zeu xs ys):D.views xs=ys:=by
 cases h with
 | rules t rs=>exact ZpE t rs
 | trees t rs=>exact views_map (ZhU t) rs
 | frags t rs=>exact views_map (ZhT t) rs
 | tree1 t x=>rw[←Za4,←Za4,D.views,D.views,ZhU]
 | frag1 t x=>rw[←ZbG,←ZbG,D.views,D.views,ZhT]
theorem Zc0 (l:List Tree):D.cleans (l.map (Zat false)):=by rw[←Zga];exact ZeX l
theorem Zc1 (l:List Frag):D.cleans (l.map (ZaV false)):=by rw[←ZcU];exact ZeW l
end Go.Proofs.YtbpmepgnjanhnaaGreat
namespace Go.Proofs.YtbpmepgnjanhnaaGreat
open Go.RowKit
theorem ZtB {E:Env} {b:Nat}:¬ Live E [] b:=by rintro⟨k,hk⟩;simp[blkOf,hget] at hk
theorem Zke {E E':Env} {h h':Hp} {M:Bars} {w:World}:∀ {ds:List D} {us:List Value},V.Reps E h M w (ds.map V.d) us→V.Reps E' h' M w (ds.map V.d) us
 | [],us,r=>by simpa[V.Reps] using r
 | d::ds,us,r=>by
  simp only[List.map_cons,V.Reps,V.Rep] at r ⊢
  obtain⟨x,y,rfl,h1,h2⟩:=r
  exact⟨x,y,rfl,h1,Zke h2⟩
theorem Zjn {E:Env} {h:Hp} {M:Bars} {w:World}:∀ {a b:List V} {us:List Value},V.Reps E h M w (a++b) us→∃ u1 u2,us=u1++u2∧V.Reps E h M w a u1∧V.Reps E h M w b u2
 | [],b,us,r=>⟨[],us,rfl,by simp[V.Reps],r⟩
 | v::a,b,us,r=>by
  simp only[List.cons_append,V.Reps] at r
  obtain⟨x,y,rfl,h1,h2⟩:=r
  obtain⟨u1,u2,rfl,k1,k2⟩:=Zjn h2
  exact⟨x::u1,u2,rfl,by simp only[V.Reps];exact⟨x,u1,rfl,h1,k1⟩,k2⟩
theorem Zgx:∀ (a b:List V),V.keyss (a++b)=V.keyss a++V.keyss b
 | [],b=>rfl
 | v::a,b=>by simp[V.keyss,Zgx a b]
theorem Zkf:∀ (ds:List D),V.keyss (ds.map V.d)=[]
 | []=>rfl
 | d::ds=>by simp[V.keyss,V.keys,Zkf ds]
theorem ACalls.nilArg {P:Program} {f:FuncId} {pre post:List D} {e sz n:Nat} {ys:List D} (hA:ACalls P f (pre.map V.d++.own 1000 0::post.map V.d) [(1000,.row e sz [])] (.own 1000 n) [(1000,.row e sz ys)]) :
  ACalls P f (pre.map V.d++.d (.raw (.slice none 0 0))::post.map V.d) [] (.own 900 n) [(900,.row e sz ys)]:=by
 refine⟨hA.ok,fun E w us o H hr hk ho hs=>?_⟩
 let E1:Env:=⟨E.blk,fun j=>if j=1000 then .slice none 0 0 else E.row j,E.fp⟩
 have hl1:∀ b,¬ Live E1 [(1000,.row e sz [])] b:=by
  rintro b ⟨k,hk⟩
  unfold blkOf at hk
  by_cases e:k=1000
  ·subst e;rw[Zaf] at hk;simp[E1,obOf] at hk
  ·rw[Zap _ _ (Ne.symm e)] at hk;simp[hget] at hk
 have hb0:bars E [] o=o:=by funext t b;simp[bars,ZtB]
 have hb1:bars E1 [(1000,.row e sz [])] o=o:=by funext t b;simp[bars,hl1]
 have H1:HRep E1 [(1000,.row e sz [])] o w:=by
  refine⟨fun k ob hk=>?_,fun k k' b h1=>absurd ⟨k,h1⟩ (hl1 b),fun k ob hk=>?_⟩
  ·by_cases e:k=1000
   ·subst e;rw[Zaf] at hk;cases hk
    simp only[ObRep,RowAt]
    exact⟨by simp,.inl ⟨none,by simp[E1]⟩⟩
   ·rw[Zap _ _ (Ne.symm e)] at hk;simp[hget] at hk
  ·by_cases e:k=1000
   ·subst e;rw[Zaf] at hk;cases hk;simp[Ob.keys]
   ·rw[Zap _ _ (Ne.symm e)] at hk;simp[hget] at hk
 obtain⟨u1,u2,rfl,r1,r2⟩:=Zjn hr
 simp only[V.Reps,V.Rep,D.RepV,D.Rep,List.cons.injEq,and_true] at r2
 obtain⟨x,y,rfl,⟨rfl,_⟩,r3⟩:=r2
 rw[hb0] at r1 r3
 have hr1:V.Reps E1 [(1000,.row e sz [])] (bars E1 [(1000,.row e sz [])] o) w (pre.map V.d++.own 1000 0::post.map V.d) (u1++.slice none 0 0::y):=by
  rw[hb1]
  refine V.Reps.append (Zke r1) ?_
  simp only[V.Reps,V.Rep]
  exact⟨_,_,rfl,⟨0,.inl ⟨e,sz,[],Zaf _ _ _,rfl⟩,Nat.le_refl _,rfl,fun _=>by simp[E1]⟩,Zke r3⟩
 refine (hA.run E1 w _ o H1 hr1 (fun k hk=>?_) (fun t b hb=>⟨(ho t b hb).1,hl1 b⟩) hs).mono ?_
 ·rw[Zgx,V.keyss,Zkf,Zkf] at hk
  simp only[V.keys,List.nil_append,List.append_nil,List.mem_singleton] at hk
  subst hk;rw[Zaf];rfl
 rintro en w' ⟨E',u,rfl,H',hu,_,hX,hH,hF⟩
 let E2:Env:=⟨E'.blk,fun j=>if j=900 then E'.row 1000 else E'.row j,E'.fp⟩
 have hblk:∀ b,blkOf E2 [(900,Ob.row e sz ys)] 900 b↔blkOf E' [(1000,Ob.row e sz ys)] 1000 b:=fun b=>by
  unfold blkOf;rw[Zaf,Zaf];simp[E2]
 have hno:∀ {E:Env} {j i:Nat} {ob:Ob} {b:Nat},blkOf E [(j,ob)] i b→i=j:=fun {E j i ob b} hb=>by
  by_cases e:i=j
  ·exact e
  ·unfold blkOf at hb;rw[Zap _ _ (Ne.symm e)] at hb;simp[hget] at hb
 have hlive:∀ b,Live E2 [(900,Ob.row e sz ys)] b↔Live E' [(1000,Ob.row e sz ys)] b:=fun b =>
  ⟨fun ⟨k,hk⟩=>by obtain rfl:=hno hk;exact⟨1000,(hblk b).1 hk⟩,fun ⟨k,hk⟩=>by obtain rfl:=hno hk;exact⟨900,(hblk b).2 hk⟩⟩
 have hbars:bars E2 [(900,Ob.row e sz ys)] o=bars E' [(1000,Ob.row e sz ys)] o:=by
  funext t b;simp only[bars,hlive b]
 refine⟨E2,u,rfl,⟨fun k ob hk=>?_,fun k k' b h1 h2=>(hno h1).trans (hno h2).symm,fun k ob hk=>?_⟩,?_,?_,hX.mono (fun b hb=>absurd hb (hl1 b)),fun k hk hs=>?_,fun k b hb=>?_⟩
 ·by_cases e:k=900
  ·subst e;rw[Zaf] at hk;cases hk
   have:=H'.obs 1000 _ (Zaf _ _ _)
   simp only[ObRep] at this ⊢
   rw[hbars]
   simpa[E2] using this
  ·rw[Zap _ _ (Ne.symm e)] at hk;simp[hget] at hk
 ·by_cases e:k=900
  ·subst e;rw[Zaf] at hk;cases hk;simp[Ob.keys]
  ·rw[Zap _ _ (Ne.symm e)] at hk;simp[hget] at hk
 ·simp only[V.Rep] at hu ⊢
  obtain⟨m,h1,h2,h3,h4⟩:=hu
  have h5:=Zax h1 (.inl ⟨e,sz,ys,Zaf _ _ _,rfl⟩)
  exact⟨m,.inl ⟨e,sz,ys,Zaf _ _ _,h5.symm⟩,h2,h3,fun hm=>by simpa[E2] using h4 hm⟩
 ·intro k hk
  simp[V.keys] at hk;subst hk;rw[Zaf];rfl
 ·by_cases e:k=900
  ·omega
  ·rw[Zap _ _ (Ne.symm e)] at hs;simp[hget] at hs
 ·obtain rfl:=hno hb
  rcases hF 1000 b ((hblk b).1 hb) with h1|h1
  ·exact absurd h1 (hl1 b)
  ·exact .inr h1
end Go.Proofs.YtbpmepgnjanhnaaGreat
namespace Go.Proofs.YtbpmepgnjanhnaaGreat
open Go.RowKit
theorem ACalls.le {P:Program} {f:FuncId} {args args':List V} {h h':Hp} {r:V} (hA:ACalls P f args' h r h') (hl:VLes args args'):ACalls P f args h r h' :=
 ⟨hA.ok,fun E w us o H hr hk ho hs=>hA.run E w us o H (hl.reps hr) (by rw[←hl.keys];exact hk) ho hs⟩
end Go.Proofs.YtbpmepgnjanhnaaGreat
namespace Go.Proofs.YtbpmepgnjanhnaaGreat
open Go.RowKit
def ZdJ (P:Program) (st f m fo:Nat):Prop:=∀ (l:List Value) (u:Value) (w:World),l.length=m→l[fo]?=some u→(Instr.field st (.agg l.toArray) f).run P w=.ok u w
theorem ZgX {P:Program} {st f m fo ft:Nat} {fs:Array Field} {fd:Field} {d:TypeDesc} (hu:P.underlying st=some (.struct fs)) (hf:fs[f]?=some fd) (ho:fd.offset=fo) (hft:fd.type=ft) (hd:P.underlying ft=some d) (hr:d.isRow=false):ZdJ P st f m fo:=by
 intro l u w hl hg
 subst ho;subst hft
 have hagg:(isAgg fd.type).run P w=.ok false w:=by
  unfold isAgg
  rw[Sem.run_bind,run_underlying hd w]
  cases d <;> simp_all [TypeDesc.isRow]
 simp only[Instr.field,Sem.run_bind,run_underlying hu,Result.andThen_ok,hf]
 simp[part,asAgg,Sem.run_bind,hagg,hg]
section
variable {P:Program} {n:Nat} {dr:Bool} {ops:Array Oper} {rest:List Oper} {log:List Rec} {K:Exit→Fr→Hp→Prop} {fr:Fr} {h:Hp}
variable {d:Nat} {ty:TypeId} {pos:String} {after:Array Edge} {g:Option (Nat×Bool)}
def Zrv:V→Bool
 | .d (.agg _)=>true
 | .agg _=>true
 | _=>false
theorem Zu1 {x:Operand} {st f m fo:Nat} {v c:V} {cs:List V} (hdn:Nat.blt d n=true) (hg:gOk ops fr g) (hF:ZdJ P st f m fo) (hx:oev fr x=v) (h1:Zaz x=true) (hv:Zrv v=true) (hcs:v.cellsOf=some cs) (hm:cs.length=m) (hc:cs[fo]?=some c)
  (hr:dops P n dr ops rest (⟨(gIns ops g++Zay x v).map Prod.fst,[d],[],[]⟩::log) K ((d,c)::fr) h):dops P n dr ops (⟨some d,.field st x f,ty,pos,after,g⟩::rest) log K fr h:=by
 refine Zav (ins:=gIns ops g++Zay x v) (objs:=[]) (v:=c) (upd:=[]) (LStep.pure rfl hdn rfl hg (Zay x v) [] c fun G E fr' h' a w C hi _=>?_) (fun p hp=>?_) (by simp) hr
 ·obtain⟨r1,r2⟩:=C.oev (Zcb hx hi) (Zao h1)
  obtain⟨c1,_⟩:=V.cells_rep hcs r1
  obtain⟨u,hu,hur⟩:=c1.get hc
  have hagg:∃ us:List Value,a.eval x=.agg us.toArray:=by
   unfold Zrv at hv
   split at hv
   ·simp only[V.Rep,D.RepV] at r1;obtain⟨us,h1,_⟩:=r1;exact⟨us,h1⟩
   ·simp only[V.Rep] at r1;obtain⟨us,h1,_⟩:=r1;exact⟨us,h1⟩
   ·cases hv
  obtain⟨us,hus⟩:=hagg
  rw[hus] at hu c1
  have hl:=c1.length
  simp only[Value.cells] at hu hl
  refine⟨u,?_,hur,fun k hk=>r2 k ?_⟩
  ·simp only[execOp,hus,Sem.run_bind,hF us u w (by simpa[hm] using hl) (by simpa using hu),Result.andThen_ok,Sem.run_pure]
  ·exact ZdM hcs k (V.keyss_mem.2 ⟨c,List.mem_of_getElem? hc,hk⟩)
 ·rcases List.mem_append.1 hp with hp|hp
  ·exact Zc3 hg p hp
  ·exact Zbj hx p hp
end
end Go.Proofs.YtbpmepgnjanhnaaGreat
namespace Go.Proofs.YtbpmepgnjanhnaaGreat
open Go.RowKit
def orU (a c:Int):Int:=((a.toNat ||| c.toNat:Nat):Int)
def andU (a c:Int):Int:=((a.toNat &&& c.toNat:Nat):Int)
def shrU (a c:Int):Int:=((a.toNat >>> c.toNat:Nat):Int)
def shlU (a c:Int):Int:=((a.toNat <<< c.toNat:Nat):Int)
def minI (a c:Int):Int:=if c < a then c else a
def maxI (a c:Int):Int:=if a < c then c else a
section
variable {P:Program} {n:Nat} {dr:Bool} {ops:Array Oper} {rest:List Oper} {log:List Rec} {K:Exit→Fr→Hp→Prop} {fr:Fr} {h:Hp}
variable {d:Nat} {ty:TypeId} {pos:String} {after:Array Edge} {g:Option (Nat×Bool)}
theorem Zrw {x y:Operand} {yt xt:TypeId} {bop:BinOp} {k k':IntKind} {a c:Int} {u:Value} (hu:u.oneCell'=true) (hrun:∀ w,(binOp bop xt (.int k a) (.int k' c)).run P w=.ok u w)
  (hdn:Nat.blt d n=true) (hg:gOk ops fr g) (hx:oev fr x=.d (.raw (.int k a))) (hy:oev fr y=.d (.raw (.int k' c)))
  (hr:dops P n dr ops rest (⟨(gIns ops g++Zan [x,y] (raws [.int k a,.int k' c])).map Prod.fst,[d],[],[]⟩::log) K ((d,.d (.raw u))::fr) h):dops P n dr ops (⟨some d,.binOp bop xt x y yt,ty,pos,after,g⟩::rest) log K fr h:=by
 refine ZiA [x,y] [.int k a,.int k' c] u (fun ρ w hρ=>?_) hu hdn hg ⟨hx,hy,trivial⟩ ?_ hr
 ·simp only[List.map_cons,List.map_nil,List.cons.injEq,and_true] at hρ
  have e1:(eqGuard bop xt x y (ρ x) (ρ y)).run P w=.ok () w:=by
   rw[hρ.1,hρ.2];unfold eqGuard;cases bop <;> rfl
  simp only[execOp,Sem.run_bind,e1,Result.andThen_ok]
  rw[hρ.1,hρ.2,hrun]
  simp
 ·simp[Zaj hx rfl,Zaj hy rfl]
theorem Zov {a:Int} (h1:0≤a) (h2:a < 18446744073709551616):(BitVec.ofInt IntKind.u64.bits a).toNat=a.toNat:=by
 show (BitVec.ofInt 64 a).toNat=a.toNat
 rw[BitVec.toNat_ofInt];congr 1;omega
theorem ZhV {m:Nat} (h:m < 18446744073709551616):IntKind.u64.wrap (m:Int)=(m:Int):=IntWalk.u64_in _ ⟨by omega,by omega⟩
theorem d_or {x y:Operand} {xt yt:TypeId} {a c:Int} (hdn:Nat.blt d n=true) (hg:gOk ops fr g) (hx:oev fr x=.d (.raw (.int .u64 a))) (hy:oev fr y=.d (.raw (.int .u64 c))) (h1:0≤a) (h2:a < 18446744073709551616) (h3:0≤c) (h4:c < 18446744073709551616)
  (hr:dops P n dr ops rest (⟨(gIns ops g++Zan [x,y] (raws [.int .u64 a,.int .u64 c])).map Prod.fst,[d],[],[]⟩::log) K ((d,.d (.raw (.int .u64 (orU a c))))::fr) h):dops P n dr ops (⟨some d,.binOp .or xt x y yt,ty,pos,after,g⟩::rest) log K fr h:=by
 refine ZgC rfl (fun w=>?_) hdn hg hx hy hr
 simp only[binOp,Op.intBits,ne_eq,not_true_eq_false,if_false,Sem.run_pure,BitVec.toNat_or]
 rw[Zov h1 h2,Zov h3 h4,ZhV (Nat.or_lt_two_pow (n:=64) (by omega) (by omega))];rfl
theorem Zwx {x y:Operand} {xt yt:TypeId} {a c:Int} (hdn:Nat.blt d n=true) (hg:gOk ops fr g) (hx:oev fr x=.d (.raw (.int .u64 a))) (hy:oev fr y=.d (.raw (.int .u64 c))) (h1:0≤a) (h2:a < 18446744073709551616) (h3:0≤c) (h4:c < 18446744073709551616)
  (hr:dops P n dr ops rest (⟨(gIns ops g++Zan [x,y] (raws [.int .u64 a,.int .u64 c])).map Prod.fst,[d],[],[]⟩::log) K ((d,.d (.raw (.int .u64 (andU a c))))::fr) h):dops P n dr ops (⟨some d,.binOp .and xt x y yt,ty,pos,after,g⟩::rest) log K fr h:=by
 refine ZgC rfl (fun w=>?_) hdn hg hx hy hr
 simp only[binOp,Op.intBits,ne_eq,not_true_eq_false,if_false,Sem.run_pure,BitVec.toNat_and]
 rw[Zov h1 h2,Zov h3 h4,ZhV (Nat.and_lt_two_pow (n:=64) _ (by omega))];rfl
theorem Zwy {x y:Operand} {xt yt:TypeId} {a c:Int} {k:IntKind} (hdn:Nat.blt d n=true) (hg:gOk ops fr g) (hx:oev fr x=.d (.raw (.int .u64 a))) (hy:oev fr y=.d (.raw (.int k c))) (h1:0≤a) (h3:0≤c) (h4:c≤64)
  (hr:dops P n dr ops rest (⟨(gIns ops g++Zan [x,y] (raws [.int .u64 a,.int k c])).map Prod.fst,[d],[],[]⟩::log) K ((d,.d (.raw (.int .u64 (shrU a c))))::fr) h):dops P n dr ops (⟨some d,.binOp .shr xt x y yt,ty,pos,after,g⟩::rest) log K fr h:=by
 refine Zrw rfl (fun w=>?_) hdn hg hx hy hr
 simp only[binOp]
 rw[shift_shr .u64 k a c h3 (by simpa[IntKind.bits] using h4)]
 have e:shrU a c=a / 2 ^ c.toNat:=by
  rw[shrU,Nat.shiftRight_eq_div_pow,Int.natCast_ediv,Int.toNat_of_nonneg h1];simp
 rw[e];rfl
theorem Zwz {x y:Operand} {xt yt:TypeId} {a c:Int} {k:IntKind} (hdn:Nat.blt d n=true) (hg:gOk ops fr g) (hx:oev fr x=.d (.raw (.int .u64 a))) (hy:oev fr y=.d (.raw (.int k c))) (h1:a=1) (h3:0≤c) (h4:c < 64)
  (hr:dops P n dr ops rest (⟨(gIns ops g++Zan [x,y] (raws [.int .u64 a,.int k c])).map Prod.fst,[d],[],[]⟩::log) K ((d,.d (.raw (.int .u64 (shlU 1 c))))::fr) h):dops P n dr ops (⟨some d,.binOp .shl xt x y yt,ty,pos,after,g⟩::rest) log K fr h:=by
 subst h1
 refine Zrw rfl (fun w=>?_) hdn hg hx hy hr
 simp only[binOp]
 rw[shift_shl .u64 k 1 c h3 (by simp[IntKind.bits];omega)]
 have e:(1:Int) * (2:Int) ^ c.toNat=((1 <<< c.toNat:Nat):Int):=by
  rw[Nat.shiftLeft_eq];simp
 have hl:(1 <<< c.toNat:Nat) < 18446744073709551616:=by
  rw[Nat.shiftLeft_eq,Nat.one_mul]
  exact Nat.pow_lt_pow_right (a:=2) (n:=64) (by decide) (by omega)
 rw[e,ZhV hl];rfl
theorem ZwA {x y:Operand} {xt yt:TypeId} {a c:Int} {k:IntKind} (hdn:Nat.blt d n=true) (hg:gOk ops fr g) (hx:oev fr x=.d (.raw (.int k a))) (hy:oev fr y=.d (.raw (.int k c))) (h1:0≤a) (h3:0 < c)
  (hr:dops P n dr ops rest (⟨(gIns ops g++Zan [x,y] (raws [.int k a,.int k c])).map Prod.fst,[d],[],[]⟩::log) K ((d,.d (.raw (.int k (a % c))))::fr) h):dops P n dr ops (⟨some d,.binOp .rem xt x y yt,ty,pos,after,g⟩::rest) log K fr h:=by
 refine ZgC rfl (fun w=>?_) hdn hg hx hy hr
 simp only[binOp,Op.intDiv,ne_eq,not_true_eq_false,if_false]
 rw[if_neg (by omega)]
 simp[Int.tmod_eq_emod_of_nonneg h1]
theorem ZwB {x y:Operand} {xt yt:TypeId} {a c:Int} (hdn:Nat.blt d n=true) (hg:gOk ops fr g) (hx:oev fr x=I a) (hy:oev fr y=I c) (h1:0≤a) (h2:a≤9223372036854775807) (h3:0 < c)
  (hr:dops P n dr ops rest (⟨(gIns ops g++Zan [x,y] (raws [.int .i64 a,.int .i64 c])).map Prod.fst,[d],[],[]⟩::log) K ((d,I (a / c))::fr) h):dops P n dr ops (⟨some d,.binOp .quo xt x y yt,ty,pos,after,g⟩::rest) log K fr h:=by
 refine ZgC (k:=.i64) rfl (fun w=>?_) hdn hg hx hy hr
 simp only[binOp,Op.intDiv,ne_eq,not_true_eq_false,if_false]
 rw[if_neg (by omega)]
 have e:a.tdiv c=a / c:=Int.tdiv_eq_ediv_of_nonneg h1
 have h4:0≤a / c:=Int.ediv_nonneg h1 (by omega)
 have h5:a / c≤a:=Int.ediv_le_self _ h1
 simp only[e,ZlO (show -9223372036854775808≤a / c by omega) (show a / c≤9223372036854775807 by omega),Sem.run_pure]
theorem Zv6 {x:Operand} {st dt:TypeId} {a c:Int} {k k':IntKind} {ds:TypeDesc} (hdn:Nat.blt d n=true) (hg:gOk ops fr g) (hx:oev fr x=.d (.raw (.int k a))) (hs:P.underlying st=some ds) (hu:P.underlying dt=some (.int k')) (hw:k'.wrap a=c)
  (hr:dops P n dr ops rest (⟨(gIns ops g++Zan [x] (raws [.int k a])).map Prod.fst,[d],[],[]⟩::log) K ((d,.d (.raw (.int k' c)))::fr) h):dops P n dr ops (⟨some d,.convert st dt x,ty,pos,after,g⟩::rest) log K fr h:=by
 subst hw
 refine ZiA [x] [.int k a] _ (fun ρ w hρ=>?_) rfl hdn hg ⟨hx,trivial⟩ (by simp[Zaj hx rfl]) hr
 simp only[List.map_cons,List.map_nil,List.cons.injEq,and_true] at hρ
 have:(convert st dt (.int k a)).run P w=.ok (.int k' (k'.wrap a)) w:=by
  unfold convert
  simp only[Sem.run_bind,run_underlying hs,run_underlying hu,Result.andThen_ok]
  cases ds <;> simp[Conv.intToInt]
 simp only[execOp,hρ,Sem.run_bind,this,Result.andThen_ok,Sem.run_pure]
theorem ZlE {ρ:Operand→Value} {b:Builtin} {xs:List Operand} {ts:Array TypeId} {w:World} {v:Value} {m:Sem Value} (hb:∀ cs,builtin b ts ty cs (xs.map ρ).toArray=(do pure (.value (←m)))) (h:m.run P w=.ok v w) :
  (execOp ρ ⟨some d,.call { callee:=.builtin b,args:=xs.toArray,argTypes:=ts },ty,pos,after,g⟩).run P w=.ok (.value v) w:=by
 simp only[execOp,resolve,Sem.run_bind,Sem.run_pure,Result.andThen_ok,invoke,List.map_toArray,hb,h]
theorem ZwC {x y:Operand} {ts:Array TypeId} {k:IntKind} {a c:Int} (hdn:Nat.blt d n=true) (hg:gOk ops fr g) (hx:oev fr x=.d (.raw (.int k a))) (hy:oev fr y=.d (.raw (.int k c)))
  (hr:dops P n dr ops rest (⟨(gIns ops g++Zan [x,y] (raws [.int k a,.int k c])).map Prod.fst,[d],[],[]⟩::log) K ((d,.d (.raw (.int k (minI a c))))::fr) h):dops P n dr ops (⟨some d,.call { callee:=.builtin .min,args:=#[x,y],argTypes:=ts },ty,pos,after,g⟩::rest) log K fr h:=by
 refine ZiA [x,y] [.int k a,.int k c] _ (fun ρ w hρ=>?_) rfl hdn hg ⟨hx,hy,trivial⟩ (by simp[Zaj hx rfl,Zaj hy rfl]) hr
 exact ZlE (xs:=[x,y]) (fun cs=>rfl) (by rw[hρ];rfl)
theorem ZwD {x y:Operand} {ts:Array TypeId} {k:IntKind} {a c:Int} (hdn:Nat.blt d n=true) (hg:gOk ops fr g) (hx:oev fr x=.d (.raw (.int k a))) (hy:oev fr y=.d (.raw (.int k c)))
  (hr:dops P n dr ops rest (⟨(gIns ops g++Zan [x,y] (raws [.int k a,.int k c])).map Prod.fst,[d],[],[]⟩::log) K ((d,.d (.raw (.int k (maxI a c))))::fr) h):dops P n dr ops (⟨some d,.call { callee:=.builtin .max,args:=#[x,y],argTypes:=ts },ty,pos,after,g⟩::rest) log K fr h:=by
 refine ZiA [x,y] [.int k a,.int k c] _ (fun ρ w hρ=>?_) rfl hdn hg ⟨hx,hy,trivial⟩ (by simp[Zaj hx rfl,Zaj hy rfl]) hr
 exact ZlE (xs:=[x,y]) (fun cs=>rfl) (by rw[hρ];rfl)
end
end Go.Proofs.YtbpmepgnjanhnaaGreat
