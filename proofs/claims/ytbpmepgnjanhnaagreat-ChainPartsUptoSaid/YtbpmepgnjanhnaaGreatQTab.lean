import Derived.Test.YtbpmepgnjanhnaaGreatS3
import Derived.Test.YtbpmepgnjanhnaaGreatRows
import Derived.KernelRfl
set_option linter.unusedVariables false
set_option linter.unusedSimpArgs false
set_option linter.unusedSectionVars false
namespace Go.Proofs.YtbpmepgnjanhnaaGreat
open Go.RowKit
def tyRows:List Ty:=[
 ⟨1,0,false,false,some (.tuple #[]),none,[]⟩,
 ⟨1,8,false,false,some .nilFunc,none,[]⟩,
 ⟨1,8,false,false,some (.int .i64 0),none,[]⟩,
 ⟨1,8,false,false,some (.int .i64 0),none,[]⟩,
 ⟨1,1,false,false,some (.bool false),none,[]⟩,
 ⟨1,1,false,false,some (.int .u8 0),none,[]⟩,
 ⟨1,1,false,false,some (.int .u8 0),none,[]⟩,
 ⟨4,24,true,false,some (.agg #[.int .i64 0,.int .i64 0,.bool false,.int .u8 0]),none,[(0,1),(1,1),(2,1),(3,1)]⟩,
 ⟨4,24,true,false,some (.agg #[.int .i64 0,.int .i64 0,.bool false,.int .u8 0]),none,[(0,1),(1,1),(2,1),(3,1)]⟩,
 ⟨1,16,false,true,some (.string ⟨#[]⟩),none,[]⟩,
 ⟨1,16,false,true,some (.string ⟨#[]⟩),none,[]⟩,
 ⟨1,16,false,true,some (.string ⟨#[]⟩),none,[]⟩,
 ⟨1,8,false,false,some (.int .u64 0),none,[]⟩,
 ⟨2,24,true,false,some (.agg #[.string ⟨#[]⟩,.int .u64 0]),none,[(0,1),(1,1)]⟩,
 ⟨2,24,true,false,some (.agg #[.string ⟨#[]⟩,.int .u64 0]),none,[(0,1),(1,1)]⟩,
 ⟨1,8,false,false,some (.pointer none),none,[]⟩,
 ⟨1,8,false,false,some (.pointer none),none,[]⟩,
 ⟨1,8,false,false,some (.pointer none),none,[]⟩,
 ⟨1,8,true,false,some (.agg #[.pointer none]),none,[(0,1)]⟩,
 ⟨1,8,true,false,some (.agg #[.pointer none]),none,[(0,1)]⟩,
 ⟨1,16,false,false,some .nilIface,none,[]⟩,
 ⟨1,4,false,false,some (.int .i32 0),none,[]⟩,
 ⟨1,24,false,false,some (.slice none 0 0),some 68,[]⟩,
 ⟨4,48,true,false,some (.agg #[.int .i64 0,.int .i64 0,.int .i64 0,.slice none 0 0]),none,[(0,1),(1,1),(2,1),(3,1)]⟩,
 ⟨4,48,true,false,some (.agg #[.int .i64 0,.int .i64 0,.int .i64 0,.slice none 0 0]),none,[(0,1),(1,1),(2,1),(3,1)]⟩,
 ⟨1,24,false,false,some (.slice none 0 0),some 3,[]⟩,
 ⟨1,8,false,false,some .nilFunc,none,[]⟩,
 ⟨1,8,false,false,some .nilFunc,none,[]⟩,
 ⟨1,8,false,false,some .nilFunc,none,[]⟩,
 ⟨1,24,false,false,some (.slice none 0 0),some 39,[]⟩,
 ⟨2,16,true,false,some (.agg #[.int .i64 0,.int .i64 0]),none,[(0,1),(1,1)]⟩,
 ⟨2,16,true,false,some (.agg #[.int .i64 0,.int .i64 0]),none,[(0,1),(1,1)]⟩,
 ⟨1,0,false,false,some (.tuple #[.slice none 0 0,.agg #[.int .i64 0,.int .i64 0]]),none,[]⟩,
 ⟨1,8,false,false,some .nilFunc,none,[]⟩,
 ⟨1,8,false,false,some .nilFunc,none,[]⟩,
 ⟨1,8,false,false,some .nilFunc,none,[]⟩,
 ⟨1,24,false,false,some (.slice none 0 0),some 75,[]⟩,
 ⟨1,24,false,false,some (.slice none 0 0),some 56,[]⟩,
 ⟨6,96,true,false,some (.agg #[.int .i64 0,.int .i64 0,.int .i64 0,.slice none 0 0,.slice none 0 0,.slice none 0 0]),none,[(0,4),(4,1),(5,1)]⟩,
 ⟨6,96,true,false,some (.agg #[.int .i64 0,.int .i64 0,.int .i64 0,.slice none 0 0,.slice none 0 0,.slice none 0 0]),none,[(0,4),(4,1),(5,1)]⟩,
 ⟨1,8,false,false,some .nilFunc,none,[]⟩,
 ⟨1,8,false,false,some .nilFunc,none,[]⟩,
 ⟨1,0,false,false,some (.tuple #[.slice none 0 0,.agg #[.int .i64 0,.int .i64 0]]),none,[]⟩,
 ⟨1,8,false,false,some .nilFunc,none,[]⟩,
 ⟨1,8,false,false,some .nilFunc,none,[]⟩,
 ⟨1,8,false,false,some .nilFunc,none,[]⟩,
 ⟨1,8,false,false,some .nilFunc,none,[]⟩,
 ⟨1,8,false,false,some .nilFunc,none,[]⟩,
 ⟨1,8,false,false,some (.pointer none),none,[]⟩,
 ⟨1,0,false,false,some (.tuple #[.pointer none,.agg #[.int .i64 0,.int .i64 0]]),none,[]⟩,
 ⟨1,8,false,false,some .nilFunc,none,[]⟩,
 ⟨1,8,false,false,some .nilFunc,none,[]⟩,
 ⟨1,8,false,false,some .nilFunc,none,[]⟩,
 ⟨1,8,false,false,some (.int .u64 0),none,[]⟩,
 ⟨1,8,false,false,some .nilFunc,none,[]⟩,
 ⟨2,32,true,false,some (.agg #[.int .i64 0,.slice none 0 0]),none,[(0,1),(1,1)]⟩,
 ⟨2,32,true,false,some (.agg #[.int .i64 0,.slice none 0 0]),none,[(0,1),(1,1)]⟩,
 ⟨1,8,false,false,some .nilFunc,none,[]⟩,
 ⟨1,8,false,false,some .nilFunc,none,[]⟩,
 ⟨1,8,false,false,some .nilFunc,none,[]⟩,
 ⟨1,0,false,false,some (.tuple #[.agg #[.int .i64 0,.slice none 0 0],.agg #[.int .i64 0,.int .i64 0]]),none,[]⟩,
 ⟨1,8,false,false,some .nilFunc,none,[]⟩,
 ⟨1,8,false,false,some .nilFunc,none,[]⟩,
 ⟨1,8,false,false,some .nilFunc,none,[]⟩,
 ⟨1,8,false,false,some .nilFunc,none,[]⟩,
 ⟨1,8,false,false,some .nilFunc,none,[]⟩,
 ⟨1,8,false,false,some .nilFunc,none,[]⟩,
 ⟨2,32,true,false,some (.agg #[.int .i64 0,.slice none 0 0]),none,[(0,1),(1,1)]⟩,
 ⟨2,32,true,false,some (.agg #[.int .i64 0,.slice none 0 0]),none,[(0,1),(1,1)]⟩,
 ⟨1,8,false,false,some .nilFunc,none,[]⟩,
 ⟨1,0,false,false,some (.tuple #[.agg #[.int .i64 0,.int .i64 0,.int .i64 0,.slice none 0 0,.slice none 0 0,.slice none 0 0],.agg #[.int .i64 0,.int .i64 0]]),none,[]⟩,
 ⟨1,8,false,false,some .nilFunc,none,[]⟩,
 ⟨1,8,false,false,some .nilFunc,none,[]⟩,
 ⟨1,8,false,false,some .nilFunc,none,[]⟩,
 ⟨1,8,false,false,some .nilFunc,none,[]⟩,
 ⟨1,24,false,false,some (.slice none 0 0),some 102,[]⟩,
 ⟨1,8,false,false,some (.pointer none),none,[]⟩,
 ⟨1,0,false,false,some (.tuple #[.pointer none,.agg #[.int .i64 0,.int .i64 0]]),none,[]⟩,
 ⟨1,8,false,false,some .nilFunc,none,[]⟩,
 ⟨6,64,true,false,some (.agg #[.pointer none,.int .i64 0,.int .i64 0,.int .i64 0,.slice none 0 0,.int .i64 0]),none,[(0,1),(1,4),(5,1)]⟩,
 ⟨6,64,true,false,some (.agg #[.pointer none,.int .i64 0,.int .i64 0,.int .i64 0,.slice none 0 0,.int .i64 0]),none,[(0,1),(1,4),(5,1)]⟩,
 ⟨1,8,false,false,some .nilFunc,none,[]⟩,
 ⟨1,8,false,false,some .nilFunc,none,[]⟩,
 ⟨1,8,false,false,some .nilFunc,none,[]⟩,
 ⟨1,8,false,false,some .nilFunc,none,[]⟩,
 ⟨1,0,false,false,some (.tuple #[.slice none 0 0,.agg #[.int .i64 0,.int .i64 0]]),none,[]⟩,
 ⟨1,8,false,false,some .nilFunc,none,[]⟩,
 ⟨1,8,false,false,some .nilFunc,none,[]⟩,
 ⟨1,24,false,false,some (.slice none 0 0),some 4,[]⟩,
 ⟨1,8,false,false,some (.map none),none,[]⟩,
 ⟨7,104,true,false,some (.agg #[.int .i64 0,.int .i64 0,.int .i64 0,.slice none 0 0,.slice none 0 0,.slice none 0 0,.map none]),none,[(0,4),(4,1),(5,1),(6,1)]⟩,
 ⟨7,104,true,false,some (.agg #[.int .i64 0,.int .i64 0,.int .i64 0,.slice none 0 0,.slice none 0 0,.slice none 0 0,.map none]),none,[(0,4),(4,1),(5,1),(6,1)]⟩,
 ⟨1,8,false,false,some .nilFunc,none,[]⟩,
 ⟨1,8,false,false,some .nilFunc,none,[]⟩,
 ⟨1,8,false,false,some .nilFunc,none,[]⟩,
 ⟨1,8,false,false,some .nilFunc,none,[]⟩,
 ⟨1,8,false,false,some .nilFunc,none,[]⟩,
 ⟨1,8,false,false,some .nilFunc,none,[]⟩,
 ⟨1,8,false,false,some .nilFunc,none,[]⟩,
 ⟨1,8,false,false,some .nilFunc,none,[]⟩,
 ⟨1,8,false,false,some .nilFunc,none,[]⟩,
 ⟨3,40,true,false,some (.agg #[.int .i64 0,.int .i64 0,.slice none 0 0]),none,[(0,1),(1,1),(2,1)]⟩,
 ⟨3,40,true,false,some (.agg #[.int .i64 0,.int .i64 0,.slice none 0 0]),none,[(0,1),(1,1),(2,1)]⟩,
 ⟨0,0,true,false,some (.agg #[]),none,[]⟩,
 ⟨0,0,true,false,some (.agg #[]),none,[]⟩,
 ⟨1,0,false,false,some (.tuple #[.agg #[],.bool false]),none,[]⟩,
 ⟨1,8,false,false,some .nilFunc,none,[]⟩,
 ⟨1,8,false,false,some (.pointer none),none,[]⟩,
 ⟨1,1,true,false,some (.agg #[.bool false]),none,[(0,1)]⟩,
 ⟨1,1,true,false,some (.agg #[.bool false]),none,[(0,1)]⟩,
 ⟨1,8,false,false,some .nilFunc,none,[]⟩,
 ⟨1,8,false,false,some .nilFunc,none,[]⟩,
 ⟨1,8,false,false,some .nilFunc,none,[]⟩,
 ⟨1,8,false,false,some .nilFunc,none,[]⟩,
 ⟨1,24,false,false,some (.slice none 0 0),some 118,[]⟩,
 ⟨1,8,false,false,some .nilFunc,none,[]⟩,
 ⟨1,8,false,false,some .nilFunc,none,[]⟩,
 ⟨1,8,false,false,some (.int .u64 0),none,[]⟩,
 ⟨1,8,false,false,some (.int .u64 0),none,[]⟩,
 ⟨1,8,false,false,some .nilFunc,none,[]⟩,
 ⟨1,8,false,false,some .nilFunc,none,[]⟩,
 ⟨1,8,false,false,some .nilFunc,none,[]⟩,
 ⟨3,24,true,false,some (.agg #[.int .i64 0,.int .i64 0,.int .i64 0]),none,[(0,1),(1,1),(2,1)]⟩,
 ⟨3,24,true,false,some (.agg #[.int .i64 0,.int .i64 0,.int .i64 0]),none,[(0,1),(1,1),(2,1)]⟩,
 ⟨1,0,false,false,some (.tuple #[.int .i64 0,.bool false]),none,[]⟩,
 ⟨1,8,false,false,some .nilFunc,none,[]⟩,
 ⟨1,8,false,false,some .nilFunc,none,[]⟩,
 ⟨1,8,false,false,some .nilFunc,none,[]⟩,
 ⟨1,8,false,false,some .nilFunc,none,[]⟩,
 ⟨1,8,false,false,some .nilFunc,none,[]⟩,
 ⟨1,8,false,false,some .nilFunc,none,[]⟩,
 ⟨1,8,false,false,some (.pointer none),none,[]⟩,
 ⟨1,8,false,false,some .nilFunc,none,[]⟩,
 ⟨1,0,false,false,some (.tuple #[.agg #[.int .i64 0,.slice none 0 0],.bool false]),none,[]⟩,
 ⟨1,8,false,false,some (.pointer none),none,[]⟩,
 ⟨2,16,true,false,some (.agg #[.pointer none,.int .i64 0]),none,[(0,1),(1,1)]⟩,
 ⟨2,16,true,false,some (.agg #[.pointer none,.int .i64 0]),none,[(0,1),(1,1)]⟩,
 ⟨1,8,false,false,some .nilFunc,none,[]⟩,
 ⟨1,0,false,false,some (.tuple #[.slice none 0 0,.bool false]),none,[]⟩,
 ⟨1,8,false,false,some .nilFunc,none,[]⟩,
 ⟨1,8,false,false,some .nilFunc,none,[]⟩,
 ⟨1,8,false,false,some (.pointer none),none,[]⟩,
 ⟨1,8,false,false,some .nilFunc,none,[]⟩,
 ⟨7,88,true,false,some (.agg #[.int .i64 0,.int .i64 0,.int .i64 0,.slice none 0 0,.slice none 0 0,.int .i64 0,.bool false]),none,[(0,4),(4,1),(5,1),(6,1)]⟩,
 ⟨7,88,true,false,some (.agg #[.int .i64 0,.int .i64 0,.int .i64 0,.slice none 0 0,.slice none 0 0,.int .i64 0,.bool false]),none,[(0,4),(4,1),(5,1),(6,1)]⟩,
 ⟨1,8,false,false,some .nilFunc,none,[]⟩,
 ⟨1,8,false,false,some .nilFunc,none,[]⟩,
 ⟨1,8,false,false,some .nilFunc,none,[]⟩,
 ⟨1,8,false,false,some .nilFunc,none,[]⟩,
 ⟨1,8,false,false,some .nilFunc,none,[]⟩,
 ⟨1,0,false,false,some (.tuple #[.slice none 0 0,.slice none 0 0]),none,[]⟩,
 ⟨1,8,false,false,some .nilFunc,none,[]⟩,
 ⟨1,8,false,false,some .nilFunc,none,[]⟩,
 ⟨1,8,false,false,some .nilFunc,none,[]⟩,
 ⟨1,8,false,false,some .nilFunc,none,[]⟩,
 ⟨1,8,false,false,some .nilFunc,none,[]⟩,
 ⟨1,8,false,false,some .nilFunc,none,[]⟩,
 ⟨1,8,false,false,some (.pointer none),none,[]⟩,
 ⟨1,24,false,false,some (.slice none 0 0),some 37,[]⟩,
 ⟨11,168,true,false,some (.agg #[.int .i64 0,.int .i64 0,.int .i64 0,.slice none 0 0,.slice none 0 0,.int .i64 0,.int .i64 0,.int .i64 0,.slice none 0 0,.slice none 0 0,.slice none 0 0]),none,[(0,4),(4,1),(5,6)]⟩,
 ⟨11,168,true,false,some (.agg #[.int .i64 0,.int .i64 0,.int .i64 0,.slice none 0 0,.slice none 0 0,.int .i64 0,.int .i64 0,.int .i64 0,.slice none 0 0,.slice none 0 0,.slice none 0 0]),none,[(0,4),(4,1),(5,6)]⟩,
 ⟨2,16,true,false,some (.agg #[.int .i64 0,.int .i64 0]),none,[(0,1),(1,1)]⟩,
 ⟨1,0,false,false,some (.tuple #[.agg #[.int .i64 0,.int .i64 0],.bool false]),none,[]⟩,
 ⟨1,8,false,false,some .nilFunc,none,[]⟩,
 ⟨1,8,false,false,some (.pointer none),none,[]⟩,
 ⟨11,168,true,false,some (.agg #[.int .i64 0,.int .i64 0,.int .i64 0,.slice none 0 0,.slice none 0 0,.int .i64 0,.int .i64 0,.int .i64 0,.slice none 0 0,.slice none 0 0,.slice none 0 0]),none,[(0,4),(4,1),(5,6)]⟩,
 ⟨11,168,true,false,some (.agg #[.int .i64 0,.int .i64 0,.int .i64 0,.slice none 0 0,.slice none 0 0,.int .i64 0,.int .i64 0,.int .i64 0,.slice none 0 0,.slice none 0 0,.slice none 0 0]),none,[(0,4),(4,1),(5,6)]⟩,
 ⟨1,8,false,false,some .nilFunc,none,[]⟩,
 ⟨1,8,false,false,some .nilFunc,none,[]⟩,
 ⟨1,8,false,false,some (.pointer none),none,[]⟩,
 ⟨8,128,true,false,some (.agg #[.int .i64 0,.int .i64 0,.int .i64 0,.slice none 0 0,.slice none 0 0,.slice none 0 0,.slice none 0 0,.bool false]),none,[(0,6),(6,1),(7,1)]⟩,
 ⟨8,128,true,false,some (.agg #[.int .i64 0,.int .i64 0,.int .i64 0,.slice none 0 0,.slice none 0 0,.slice none 0 0,.slice none 0 0,.bool false]),none,[(0,6),(6,1),(7,1)]⟩,
 ⟨1,8,false,false,some .nilFunc,none,[]⟩,
 ⟨1,8,false,false,some .nilFunc,none,[]⟩,
 ⟨1,8,false,false,some (.pointer none),none,[]⟩,
 ⟨1,24,false,false,some (.slice none 0 0),some 178,[]⟩,
 ⟨5,72,true,false,some (.agg #[.int .i64 0,.int .i64 0,.int .i64 0,.slice none 0 0,.slice none 0 0]),none,[(0,4),(4,1)]⟩,
 ⟨5,72,true,false,some (.agg #[.int .i64 0,.int .i64 0,.int .i64 0,.slice none 0 0,.slice none 0 0]),none,[(0,4),(4,1)]⟩,
 ⟨1,24,false,false,some (.slice none 0 0),some 181,[]⟩,
 ⟨1,8,false,false,some .nilFunc,none,[]⟩,
 ⟨2,48,true,false,some (.agg #[.slice none 0 0,.slice none 0 0]),none,[(0,1),(1,1)]⟩,
 ⟨2,48,true,false,some (.agg #[.slice none 0 0,.slice none 0 0]),none,[(0,1),(1,1)]⟩,
 ⟨1,8,false,false,some (.pointer none),none,[]⟩,
 ⟨1,24,false,false,some (.slice none 0 0),some 186,[]⟩,
 ⟨2,32,true,false,some (.agg #[.slice none 0 0,.bool false]),none,[(0,1),(1,1)]⟩,
 ⟨2,32,true,false,some (.agg #[.slice none 0 0,.bool false]),none,[(0,1),(1,1)]⟩,
 ⟨1,24,false,false,some (.slice none 0 0),some 188,[]⟩,
 ⟨2,48,true,false,some (.agg #[.slice none 0 0,.slice none 0 0]),none,[(0,1),(1,1)]⟩,
 ⟨2,48,true,false,some (.agg #[.slice none 0 0,.slice none 0 0]),none,[(0,1),(1,1)]⟩,
 ⟨1,8,false,false,some .nilFunc,none,[]⟩,
 ⟨1,8,false,false,some .nilFunc,none,[]⟩,
 ⟨1,8,false,false,some .nilFunc,none,[]⟩,
 ⟨1,8,false,false,some .nilFunc,none,[]⟩,
 ⟨1,8,false,false,some .nilFunc,none,[]⟩,
 ⟨1,24,false,false,some (.slice none 0 0),some 195,[]⟩,
 ⟨1,24,false,false,some (.slice none 0 0),some 197,[]⟩,
 ⟨1,8,false,false,some .nilFunc,none,[]⟩,
 ⟨1,24,false,false,some (.slice none 0 0),some 3,[]⟩,
 ⟨1,8,false,false,some .nilFunc,none,[]⟩,
 ⟨1,24,false,false,some (.slice none 0 0),some 202,[]⟩,
 ⟨1,8,false,false,some .nilFunc,none,[]⟩,
 ⟨1,8,false,false,some .nilFunc,none,[]⟩,
 ⟨1,24,false,false,some (.slice none 0 0),some 204,[]⟩,
 ⟨2,48,true,false,some (.agg #[.slice none 0 0,.slice none 0 0]),none,[(0,1),(1,1)]⟩,
 ⟨2,48,true,false,some (.agg #[.slice none 0 0,.slice none 0 0]),none,[(0,1),(1,1)]⟩,
 ⟨1,8,false,false,some .nilFunc,none,[]⟩,
 ⟨1,8,false,false,some .nilFunc,none,[]⟩,
 ⟨1,8,false,false,some .nilFunc,none,[]⟩,
 ⟨1,8,false,false,some .nilFunc,none,[]⟩,
 ⟨1,8,false,false,some .nilFunc,none,[]⟩,
 ⟨1,8,false,false,some .nilFunc,none,[]⟩,
 ⟨1,8,false,false,some .nilFunc,none,[]⟩,
 ⟨1,8,false,false,some .nilFunc,none,[]⟩,
 ⟨1,8,false,false,some (.int .i64 0),none,[]⟩,
 ⟨1,0,false,false,some (.tuple #[.int .i64 0,.int .i64 0]),none,[]⟩,
 ⟨1,8,false,false,some .nilFunc,none,[]⟩,
 ⟨1,8,false,false,some .nilFunc,none,[]⟩,
 ⟨1,8,false,false,some .nilFunc,none,[]⟩,
 ⟨1,8,false,false,some .nilFunc,none,[]⟩,
 ⟨1,8,false,false,some .nilFunc,none,[]⟩,
 ⟨1,4,false,false,some (.int .u32 0),none,[]⟩,
 ⟨1,8,false,false,some .nilFunc,none,[]⟩,
 ⟨1,8,false,false,some .nilFunc,none,[]⟩,
 ⟨1,8,false,false,some .nilFunc,none,[]⟩,
 ⟨1,8,false,false,some .nilFunc,none,[]⟩,
 ⟨1,8,false,false,some .nilFunc,none,[]⟩,
 ⟨1,8,false,false,some .nilFunc,none,[]⟩,
 ⟨1,8,false,false,some .nilFunc,none,[]⟩,
 ⟨1,24,false,false,some (.slice none 0 0),some 231,[]⟩,
 ⟨7,104,true,false,some (.agg #[.int .i64 0,.int .i64 0,.int .i64 0,.slice none 0 0,.slice none 0 0,.int .i64 0,.slice none 0 0]),none,[(0,4),(4,1),(5,1),(6,1)]⟩,
 ⟨7,104,true,false,some (.agg #[.int .i64 0,.int .i64 0,.int .i64 0,.slice none 0 0,.slice none 0 0,.int .i64 0,.slice none 0 0]),none,[(0,4),(4,1),(5,1),(6,1)]⟩,
 ⟨1,24,false,false,some (.slice none 0 0),some 25,[]⟩,
 ⟨1,8,false,false,some .nilFunc,none,[]⟩,
 ⟨1,8,false,false,some .nilFunc,none,[]⟩,
 ⟨1,8,false,false,some .nilFunc,none,[]⟩,
 ⟨1,8,false,false,some .nilFunc,none,[]⟩,
 ⟨1,8,false,false,some .nilFunc,none,[]⟩,
 ⟨1,8,false,false,some .nilFunc,none,[]⟩,
 ⟨1,8,false,false,some .nilFunc,none,[]⟩,
 ⟨1,8,false,false,some .nilFunc,none,[]⟩,
 ⟨1,8,false,false,some .nilFunc,none,[]⟩,
 ⟨1,8,false,false,some .nilFunc,none,[]⟩,
 ⟨1,8,false,false,some .nilFunc,none,[]⟩,
 ⟨1,8,false,false,some .nilFunc,none,[]⟩,
 ⟨1,8,false,false,some .nilFunc,none,[]⟩,
 ⟨1,8,false,false,some .nilFunc,none,[]⟩,
 ⟨1,8,false,false,some .nilFunc,none,[]⟩,
 ⟨1,8,false,false,some .nilFunc,none,[]⟩,
 ⟨1,8,false,false,some (.int .u64 0),none,[]⟩,
 ⟨1,8,false,false,some .nilFunc,none,[]⟩,
 ⟨1,8,false,false,some .nilFunc,none,[]⟩,
 ⟨1,8,false,false,some .nilFunc,none,[]⟩,
 ⟨1,8,false,false,some (.pointer none),none,[]⟩,
 ⟨1,8,false,false,some .nilFunc,none,[]⟩,
 ⟨1,8,false,false,some .nilFunc,none,[]⟩,
 ⟨1,8,false,false,some .nilFunc,none,[]⟩,
 ⟨1,8,false,false,some .nilFunc,none,[]⟩,
 ⟨1,8,false,false,some .nilFunc,none,[]⟩,
 ⟨1,8,false,false,some .nilFunc,none,[]⟩,
 ⟨1,8,false,false,some (.pointer none),none,[]⟩,
 ⟨1,0,false,false,some (.tuple #[.int .i64 0,.int .i64 0]),none,[]⟩,
 ⟨1,8,false,false,some .nilFunc,none,[]⟩,
 ⟨1,8,false,false,some .nilFunc,none,[]⟩,
 ⟨4,40,true,false,some (.agg #[.pointer none,.pointer none,.pointer none,.string ⟨#[]⟩]),none,[(0,1),(1,1),(2,1),(3,1)]⟩,
 ⟨4,40,true,false,some (.agg #[.pointer none,.pointer none,.pointer none,.string ⟨#[]⟩]),none,[(0,1),(1,1),(2,1),(3,1)]⟩,
 ⟨0,0,true,false,some (.agg #[]),none,[]⟩,
 ⟨0,0,true,false,some (.agg #[]),none,[(0,0)]⟩,
 ⟨0,0,true,false,some (.agg #[]),none,[(0,0)]⟩,
 ⟨1,1,false,false,some (.int .u8 0),none,[]⟩,
 ⟨1,1,false,false,some (.int .u8 0),none,[]⟩,
 ⟨1,8,false,false,some .nilFunc,none,[]⟩,
 ⟨1,8,false,false,some (.pointer none),none,[]⟩,
 ⟨1,4,false,false,some (.int .i32 0),none,[]⟩,
 ⟨1,4,false,false,some (.int .i32 0),none,[]⟩,
 ⟨11,48,true,false,some (.agg #[.int .u64 0,.int .u64 0,.int .u32 0,.int .u8 0,.int .u8 0,.int .u8 0,.int .u8 0,.nilFunc,.pointer none,.int .i32 0,.int .i32 0]),none,[(0,1),(1,1),(2,1),(3,1),(4,1),(5,1),(6,1),(7,1),(8,1),(9,1),(10,1)]⟩,
 ⟨11,48,true,false,some (.agg #[.int .u64 0,.int .u64 0,.int .u32 0,.int .u8 0,.int .u8 0,.int .u8 0,.int .u8 0,.nilFunc,.pointer none,.int .i32 0,.int .i32 0]),none,[(0,1),(1,1),(2,1),(3,1),(4,1),(5,1),(6,1),(7,1),(8,1),(9,1),(10,1)]⟩,
 ⟨1,8,false,false,some (.pointer none),none,[]⟩]
theorem Zty:tyRows.map some=(List.range tyRows.length).map (tyOf Tryz.prog):=by kernel_rfl
def TY:TT Tryz.prog:=⟨tyRows,Zty⟩
theorem hmix:Tryz.prog.follows .mixedOrders=true:=by kernel_rfl
structure Rule where
 left:Int
 right:List Int
deriving DecidableEq,Inhabited
structure Gram where
 vars:Int
 terms:Int
 start:Int
 rules:List Rule
deriving DecidableEq,Inhabited
inductive Frag where
 | mk (op n:Int) (l:List Frag)
inductive Tree where
 | mk (rule:Int) (kids:List Tree)
structure Step where
 g:Gram
 frags:List (List Frag)
 empty:List Tree
structure Fault where
 code:Int
 at_:Int
deriving DecidableEq,Inhabited
instance:Inhabited Frag:=⟨.mk 0 0 []⟩
instance:Inhabited Tree:=⟨.mk 0 []⟩
def Frag.op:Frag→Int|.mk o _ _=>o
def Frag.n:Frag→Int|.mk _ n _=>n
def Frag.l:Frag→List Frag|.mk _ _ l=>l
def Tree.rule:Tree→Int|.mk r _=>r
def Tree.kids:Tree→List Tree|.mk _ k=>k
def ZaR (t:Bool) (r:Rule):D:=.agg [iD r.left,ints t r.right]
abbrev ZaL (t:Bool) (rs:List Rule):D:=.sl t 2 (rs.map (ZaR t))
def Za6 (t:Bool) (g:Gram):D:=.agg [iD g.vars,iD g.terms,iD g.start,ZaL t g.rules]
mutual
def ZaG (t:Bool):Frag→D
 | .mk o n l=>.agg [iD o,iD n,.sl t 3 (Zdv t l)]
def Zdv (t:Bool):List Frag→List D
 | []=>[]
 | f::l=>ZaG t f::Zdv t l
end
abbrev Zah (t:Bool) (l:List Frag):D:=.sl t 3 (l.map (ZaG t))
mutual
def ZaY (t:Bool):Tree→D
 | .mk r k=>.agg [iD r,.sl t 2 (Zhc t k)]
def Zhc (t:Bool):List Tree→List D
 | []=>[]
 | x::l=>ZaY t x::Zhc t l
end
abbrev Zap (t:Bool) (l:List Tree):D:=.sl t 2 (l.map (ZaY t))
theorem ZbP (t:Bool):∀ l:List Frag,Zdv t l=l.map (ZaG t)
 | []=>rfl
 | f::l=>by simp[Zdv,ZbP t l]
theorem ZgP (t:Bool):∀ l:List Tree,Zhc t l=l.map (ZaY t)
 | []=>rfl
 | f::l=>by simp[Zhc,ZgP t l]
theorem ZvP (t:Bool) (f:Frag):ZaG t f=.agg [iD f.op,iD f.n,Zah t f.l]:=by
 cases f;simp[ZaG,ZbP,Frag.op,Frag.n,Frag.l]
theorem ZeR (t:Bool) (x:Tree):ZaY t x=.agg [iD x.rule,Zap t x.kids]:=by
 cases x;simp[ZaY,ZgP,Tree.rule,Tree.kids]
def Zcf (t:Bool) (s:Step):D:=.agg [iD s.g.vars,iD s.g.terms,iD s.g.start,ZaL t s.g.rules,.sl t 1 (s.frags.map (Zah t)),Zap t s.empty]
def Zba (f:Fault):D:=.agg [iD f.code,iD f.at_]
theorem Ztz (t:Bool) (r:Rule):(ZaR t r).view=ZaR true r:=by simp[ZaR,D.view,D.views,Zc6,iD]
theorem Zq2 (t:Bool) (rs:List Rule):D.views (rs.map (ZaR t))=rs.map (ZaR true):=views_map (Ztz t) rs
mutual
theorem Ziy (t:Bool):∀ f:Frag,(ZaG t f).view=ZaG true f
 | .mk o n l=>by simp[ZaG,D.view,D.views,Zj0 t l,iD]
theorem Zj0 (t:Bool):∀ l:List Frag,D.views (Zdv t l)=Zdv true l
 | []=>rfl
 | f::l=>by simp[Zdv,D.views,Ziy t f,Zj0 t l]
end
mutual
theorem Ziz (t:Bool):∀ f:Tree,(ZaY t f).view=ZaY true f
 | .mk o l=>by simp[ZaY,D.view,D.views,Zj1 t l,iD]
theorem Zj1 (t:Bool):∀ l:List Tree,D.views (Zhc t l)=Zhc true l
 | []=>rfl
 | f::l=>by simp[Zhc,D.views,Ziz t f,Zj1 t l]
end
theorem ZeS (xs:List Int):D.cleans (xs.map iD):=ZgX Zwe xs
theorem Zq3 (r:Rule):(ZaR false r).clean:=⟨trivial,⟨rfl,ZeS _⟩,trivial⟩
theorem Zfl (rs:List Rule):D.cleans (rs.map (ZaR false)):=ZgX Zq3 rs
mutual
theorem Zq4:∀ f:Frag,(ZaG false f).clean
 | .mk o n l=>⟨trivial,trivial,⟨rfl,Zfm l⟩,trivial⟩
theorem Zfm:∀ l:List Frag,D.cleans (Zdv false l)
 | []=>trivial
 | f::l=>⟨Zq4 f,Zfm l⟩
end
mutual
theorem Zq5:∀ f:Tree,(ZaY false f).clean
 | .mk o l=>⟨trivial,⟨rfl,Zfn l⟩,trivial⟩
theorem Zfn:∀ l:List Tree,D.cleans (Zhc false l)
 | []=>trivial
 | f::l=>⟨Zq5 f,Zfn l⟩
end
abbrev Zbf (t:Bool) (x:Tree):D:=.agg [iD x.rule,Zap t x.kids]
theorem ZcM (t:Bool) (x:Tree):ZaY t x=Zbf t x:=ZeR t x
abbrev Zk4 (t:Bool) (x:Frag):D:=.agg [iD x.op,iD x.n,Zah t x.l]
theorem ZbQ (t:Bool) (x:Frag):ZaG t x=Zk4 t x:=ZvP t x
inductive ZeT:List D→List D→Prop
 | rules (t:Bool) (rs:List Rule):ZeT (rs.map (ZaR t)) (rs.map (ZaR true))
 | trees (t:Bool) (rs:List Tree):ZeT (rs.map (ZaY t)) (rs.map (ZaY true))
 | frags (t:Bool) (rs:List Frag):ZeT (rs.map (ZaG t)) (rs.map (ZaG true))
 | tree1 (t:Bool) (x:Tree):ZeT [Zbf t x] [Zbf true x]
 | frag1 (t:Bool) (x:Frag):ZeT [Zk4 t x] [Zk4 true x]
theorem ZaD {xs ys:List D} (h:ZeT xs ys):D.views xs=ys:=by
 cases h with
 | rules t rs=>exact Zq2 t rs
 | trees t rs=>exact views_map (Ziz t) rs
 | frags t rs=>exact views_map (Ziy t) rs
 | tree1 t x=>rw[←ZcM,←ZcM,D.views,D.views,Ziz]
 | frag1 t x=>rw[←ZbQ,←ZbQ,D.views,D.views,Ziy]
theorem Zde (l:List Tree):D.cleans (l.map (ZaY false)):=by rw[←ZgP];exact Zfn l
theorem Zdf (l:List Frag):D.cleans (l.map (ZaG false)):=by rw[←ZbP];exact Zfm l
theorem ZvQ {E:Env} {b:Nat}:¬ Live E [] b:=by rintro⟨k,hk⟩;simp[blkOf,hget] at hk
theorem Zk5 {E E':Env} {h h':Hp} {M:Bars} {w:World}:∀ {ds:List D} {us:List Value},V.Reps E h M w (ds.map V.d) us→V.Reps E' h' M w (ds.map V.d) us
 | [],us,r=>by simpa[V.Reps] using r
 | d::ds,us,r=>by
  simp only[List.map_cons,V.Reps,V.Rep] at r ⊢
  obtain⟨x,y,rfl,h1,h2⟩:=r
  exact⟨x,y,rfl,h1,Zk5 h2⟩
theorem Zj2 {E:Env} {h:Hp} {M:Bars} {w:World}:∀ {a b:List V} {us:List Value},V.Reps E h M w (a++b) us→∃ u1 u2,us=u1++u2∧V.Reps E h M w a u1∧V.Reps E h M w b u2
 | [],b,us,r=>⟨[],us,rfl,by simp[V.Reps],r⟩
 | v::a,b,us,r=>by
  simp only[List.cons_append,V.Reps] at r
  obtain⟨x,y,rfl,h1,h2⟩:=r
  obtain⟨u1,u2,rfl,k1,k2⟩:=Zj2 h2
  exact⟨x::u1,u2,rfl,by simp only[V.Reps];exact⟨x,u1,rfl,h1,k1⟩,k2⟩
theorem Zhd:∀ (a b:List V),V.keyss (a++b)=V.keyss a++V.keyss b
 | [],b=>rfl
 | v::a,b=>by simp[V.keyss,Zhd a b]
theorem Zk6:∀ (ds:List D),V.keyss (ds.map V.d)=[]
 | []=>rfl
 | d::ds=>by simp[V.keyss,V.keys,Zk6 ds]
theorem ACalls.nilArg {P:Program} {f:FuncId} {pre post:List D} {e sz n:Nat} {ys:List D} (hA:ACalls P f (pre.map V.d++.own 1000 0::post.map V.d) [(1000,.row e sz [])] (.own 1000 n) [(1000,.row e sz ys)]) :
  ACalls P f (pre.map V.d++.d (.raw (.slice none 0 0))::post.map V.d) [] (.own 900 n) [(900,.row e sz ys)]:=by
 refine⟨hA.ok,fun E w us o H hr hk ho hs=>?_⟩
 let E1:Env:=⟨E.blk,fun j=>if j=1000 then .slice none 0 0 else E.row j,E.fp⟩
 have hl1:∀ b,¬ Live E1 [(1000,.row e sz [])] b:=by
  rintro b ⟨k,hk⟩
  unfold blkOf at hk
  by_cases e:k=1000
  ·subst e;rw[Zai] at hk;simp[E1,obOf] at hk
  ·rw[Zaq _ _ (Ne.symm e)] at hk;simp[hget] at hk
 have hb0:bars E [] o=o:=by funext t b;simp[bars,ZvQ]
 have hb1:bars E1 [(1000,.row e sz [])] o=o:=by funext t b;simp[bars,hl1]
 have H1:HRep E1 [(1000,.row e sz [])] o w:=by
  refine⟨fun k ob hk=>?_,fun k k' b h1=>absurd ⟨k,h1⟩ (hl1 b),fun k ob hk=>?_⟩
  ·by_cases e:k=1000
   ·subst e;rw[Zai] at hk;cases hk
    simp only[ObRep,RowAt]
    exact⟨by simp,.inl ⟨none,by simp[E1]⟩⟩
   ·rw[Zaq _ _ (Ne.symm e)] at hk;simp[hget] at hk
  ·by_cases e:k=1000
   ·subst e;rw[Zai] at hk;cases hk;simp[Ob.keys]
   ·rw[Zaq _ _ (Ne.symm e)] at hk;simp[hget] at hk
 obtain⟨u1,u2,rfl,r1,r2⟩:=Zj2 hr
 simp only[V.Reps,V.Rep,D.RepV,D.Rep,List.cons.injEq,and_true] at r2
 obtain⟨x,y,rfl,⟨rfl,_⟩,r3⟩:=r2
 rw[hb0] at r1 r3
 have hr1:V.Reps E1 [(1000,.row e sz [])] (bars E1 [(1000,.row e sz [])] o) w (pre.map V.d++.own 1000 0::post.map V.d) (u1++.slice none 0 0::y):=by
  rw[hb1]
  refine V.Reps.append (Zk5 r1) ?_
  simp only[V.Reps,V.Rep]
  exact⟨_,_,rfl,⟨0,.inl ⟨e,sz,[],Zai _ _ _,rfl⟩,Nat.le_refl _,rfl,fun _=>by simp[E1]⟩,Zk5 r3⟩
 refine (hA.run E1 w _ o H1 hr1 (fun k hk=>?_) (fun t b hb=>⟨(ho t b hb).1,hl1 b⟩) hs).mono ?_
 ·rw[Zhd,V.keyss,Zk6,Zk6] at hk
  simp only[V.keys,List.nil_append,List.append_nil,List.mem_singleton] at hk
  subst hk;rw[Zai];rfl
 rintro en w' ⟨E',u,rfl,H',hu,_,hX,hH,hF⟩
 let E2:Env:=⟨E'.blk,fun j=>if j=900 then E'.row 1000 else E'.row j,E'.fp⟩
 have hblk:∀ b,blkOf E2 [(900,Ob.row e sz ys)] 900 b↔blkOf E' [(1000,Ob.row e sz ys)] 1000 b:=fun b=>by
  unfold blkOf;rw[Zai,Zai];simp[E2]
 have hno:∀ {E:Env} {j i:Nat} {ob:Ob} {b:Nat},blkOf E [(j,ob)] i b→i=j:=fun {E j i ob b} hb=>by
  by_cases e:i=j
  ·exact e
  ·unfold blkOf at hb;rw[Zaq _ _ (Ne.symm e)] at hb;simp[hget] at hb
 have hlive:∀ b,Live E2 [(900,Ob.row e sz ys)] b↔Live E' [(1000,Ob.row e sz ys)] b:=fun b =>
  ⟨fun ⟨k,hk⟩=>by obtain rfl:=hno hk;exact⟨1000,(hblk b).1 hk⟩,fun ⟨k,hk⟩=>by obtain rfl:=hno hk;exact⟨900,(hblk b).2 hk⟩⟩
 have hbars:bars E2 [(900,Ob.row e sz ys)] o=bars E' [(1000,Ob.row e sz ys)] o:=by
  funext t b;simp only[bars,hlive b]
 refine⟨E2,u,rfl,⟨fun k ob hk=>?_,fun k k' b h1 h2=>(hno h1).trans (hno h2).symm,fun k ob hk=>?_⟩,?_,?_,hX.mono (fun b hb=>absurd hb (hl1 b)),fun k hk hs=>?_,fun k b hb=>?_⟩
 ·by_cases e:k=900
  ·subst e;rw[Zai] at hk;cases hk
   have:=H'.obs 1000 _ (Zai _ _ _)
   simp only[ObRep] at this ⊢
   rw[hbars]
   simpa[E2] using this
  ·rw[Zaq _ _ (Ne.symm e)] at hk;simp[hget] at hk
 ·by_cases e:k=900
  ·subst e;rw[Zai] at hk;cases hk;simp[Ob.keys]
  ·rw[Zaq _ _ (Ne.symm e)] at hk;simp[hget] at hk
 ·simp only[V.Rep] at hu ⊢
  obtain⟨m,h1,h2,h3,h4⟩:=hu
  have h5:=ZaS h1 (.inl ⟨e,sz,ys,Zai _ _ _,rfl⟩)
  exact⟨m,.inl ⟨e,sz,ys,Zai _ _ _,h5.symm⟩,h2,h3,fun hm=>by simpa[E2] using h4 hm⟩
 ·intro k hk
  simp[V.keys] at hk;subst hk;rw[Zai];rfl
 ·by_cases e:k=900
  ·omega
  ·rw[Zaq _ _ (Ne.symm e)] at hs;simp[hget] at hs
 ·obtain rfl:=hno hb
  rcases hF 1000 b ((hblk b).1 hb) with h1|h1
  ·exact absurd h1 (hl1 b)
  ·exact .inr h1
theorem ACalls.le {P:Program} {f:FuncId} {args args':List V} {h h':Hp} {r:V} (hA:ACalls P f args' h r h') (hl:VLes args args'):ACalls P f args h r h' :=
 ⟨hA.ok,fun E w us o H hr hk ho hs=>hA.run E w us o H (hl.reps hr) (by rw[←hl.keys];exact hk) ho hs⟩
def ZeU (P:Program) (st f m fo:Nat):Prop:=∀ (l:List Value) (u:Value) (w:World),l.length=m→l[fo]? = some u→(Instr.field st (.agg l.toArray) f).run P w=.ok u w
theorem Zk7 {P:Program} {st f m fo ft:Nat} {fs:Array Field} {fd:Field} {d:TypeDesc} (hu:P.underlying st=some (.struct fs)) (hf:fs[f]? = some fd) (ho:fd.offset=fo) (hft:fd.type=ft) (hd:P.underlying ft=some d) (hr:d.isRow=false):ZeU P st f m fo:=by
 intro l u w hl hg
 subst ho;subst hft
 have hagg:(isAgg fd.type).run P w=.ok false w:=by
  unfold isAgg
  rw[Sem.run_bind,run_underlying hd w]
  cases d <;> simp_all [TypeDesc.isRow]
 simp only[Instr.field,Sem.run_bind,run_underlying hu,Result.andThen_ok,hf]
 simp[part,asAgg,Sem.run_bind,hagg,hg]
section
variable {P:Program} {n:Nat} {dr:Bool} {ops:Array Oper} {rest:List Oper} {log:List Rec} {K:Exit→Fr→Hp→Prop} {fr:Fr} {h:Hp}
variable {d:Nat} {ty:TypeId} {pos:String} {after:Array Edge} {g:Option (Nat×Bool)}
def ZtA:V→Bool
 | .d (.agg _)=>true
 | .agg _=>true
 | _=>false
theorem Zxn {x:Operand} {st f m fo:Nat} {v c:V} {cs:List V} (hdn:Nat.blt d n=true) (hg:gOk ops fr g) (hF:ZeU P st f m fo) (hx:oev fr x=v) (h1:ZaC x=true) (hv:ZtA v=true) (hcs:v.cellsOf=some cs) (hm:cs.length=m) (hc:cs[fo]? = some c)
  (hr:dops P n dr ops rest (⟨(gIns ops g++Zaz x v).map Prod.fst,[d],[],[]⟩::log) K ((d,c)::fr) h):dops P n dr ops (⟨some d,.field st x f,ty,pos,after,g⟩::rest) log K fr h:=by
 refine Zaw (ins:=gIns ops g++Zaz x v) (objs:=[]) (v:=c) (upd:=[]) (LStep.pure rfl hdn rfl hg (Zaz x v) [] c fun G E fr' h' a w C hi _=>?_) (fun p hp=>?_) (by simp) hr
 ·obtain⟨r1,r2⟩:=C.oev (Zb2 hx hi) (Zao h1)
  obtain⟨c1,_⟩:=V.cells_rep hcs r1
  obtain⟨u,hu,hur⟩:=c1.get hc
  have hagg:∃ us:List Value,a.eval x=.agg us.toArray:=by
   unfold ZtA at hv
   split at hv
   ·simp only[V.Rep,D.RepV] at r1;obtain⟨us,h1,_⟩:=r1;exact⟨us,h1⟩
   ·simp only[V.Rep] at r1;obtain⟨us,h1,_⟩:=r1;exact⟨us,h1⟩
   ·cases hv
  obtain⟨us,hus⟩:=hagg
  rw[hus] at hu c1
  have hl:=c1.length
  simp only[Value.cells] at hu hl
  refine⟨u,?_,hur,fun k hk=>r2 k ?_⟩
  ·simp only[execOp,hus,Sem.run_bind,hF us u w (by simpa[hm] using hl) (by simpa using hu),Result.andThen_ok,Sem.run_pure]
  ·exact Zei hcs k (V.keyss_mem.2 ⟨c,List.mem_of_getElem? hc,hk⟩)
 ·rcases List.mem_append.1 hp with hp|hp
  ·exact ZcV hg p hp
  ·exact Zbp hx p hp
end
def orU (a c:Int):Int:=((a.toNat ||| c.toNat:Nat):Int)
def andU (a c:Int):Int:=((a.toNat &&& c.toNat:Nat):Int)
def shrU (a c:Int):Int:=((a.toNat >>> c.toNat:Nat):Int)
def shlU (a c:Int):Int:=((a.toNat <<< c.toNat:Nat):Int)
def minI (a c:Int):Int:=if c < a then c else a
def maxI (a c:Int):Int:=if a < c then c else a
section
variable {P:Program} {n:Nat} {dr:Bool} {ops:Array Oper} {rest:List Oper} {log:List Rec} {K:Exit→Fr→Hp→Prop} {fr:Fr} {h:Hp}
variable {d:Nat} {ty:TypeId} {pos:String} {after:Array Edge} {g:Option (Nat×Bool)}
theorem ZtB {x y:Operand} {yt xt:TypeId} {bop:BinOp} {k k':IntKind} {a c:Int} {u:Value} (hu:u.oneCell'=true) (hrun:∀ w,(binOp bop xt (.int k a) (.int k' c)).run P w=.ok u w)
  (hdn:Nat.blt d n=true) (hg:gOk ops fr g) (hx:oev fr x=.d (.raw (.int k a))) (hy:oev fr y=.d (.raw (.int k' c)))
  (hr:dops P n dr ops rest (⟨(gIns ops g++Zan [x,y] (raws [.int k a,.int k' c])).map Prod.fst,[d],[],[]⟩::log) K ((d,.d (.raw u))::fr) h):dops P n dr ops (⟨some d,.binOp bop xt x y yt,ty,pos,after,g⟩::rest) log K fr h:=by
 refine Zjf [x,y] [.int k a,.int k' c] u (fun ρ w hρ=>?_) hu hdn hg ⟨hx,hy,trivial⟩ ?_ hr
 ·simp only[List.map_cons,List.map_nil,List.cons.injEq,and_true] at hρ
  have e1:(eqGuard bop xt x y (ρ x) (ρ y)).run P w=.ok () w:=by
   rw[hρ.1,hρ.2];unfold eqGuard;cases bop <;> rfl
  simp only[execOp,Sem.run_bind,e1,Result.andThen_ok]
  rw[hρ.1,hρ.2,hrun]
  simp
 ·simp[Zaj hx rfl,Zaj hy rfl]
theorem ZpM {a:Int} (h1:0≤a) (h2:a < 18446744073709551616):(BitVec.ofInt IntKind.u64.bits a).toNat=a.toNat:=by
 show (BitVec.ofInt 64 a).toNat=a.toNat
 rw[BitVec.toNat_ofInt];congr 1;omega
theorem ZiA {m:Nat} (h:m < 18446744073709551616):IntKind.u64.wrap (m:Int)=(m:Int):=IntWalk.u64_in _ ⟨by omega,by omega⟩
theorem d_or {x y:Operand} {xt yt:TypeId} {a c:Int} (hdn:Nat.blt d n=true:=by exact rfl) (hg:gOk ops fr g:=by exact Vf) (hx:oev fr x=.d (.raw (.int .u64 a)):=by exact rfl) (hy:oev fr y=.d (.raw (.int .u64 c)):=by exact rfl) (h1:0≤a:=by exact Vm) (h2:a < 18446744073709551616:=by exact Vm) (h3:0≤c:=by exact Vm) (h4:c < 18446744073709551616:=by exact Vm)
  (hr:dops P n dr ops rest (⟨(gIns ops g++Zan [x,y] (raws [.int .u64 a,.int .u64 c])).map Prod.fst,[d],[],[]⟩::log) K ((d,.d (.raw (.int .u64 (orU a c))))::fr) h):dops P n dr ops (⟨some d,.binOp .or xt x y yt,ty,pos,after,g⟩::rest) log K fr h:=by
 refine Zhj rfl (fun w=>?_) hdn hg hx hy hr
 simp only[binOp,Op.intBits,ne_eq,not_true_eq_false,if_false,Sem.run_pure,BitVec.toNat_or]
 rw[ZpM h1 h2,ZpM h3 h4,ZiA (Nat.or_lt_two_pow (n:=64) (by omega) (by omega))];rfl
theorem ZyX {x y:Operand} {xt yt:TypeId} {a c:Int} (hdn:Nat.blt d n=true:=by exact rfl) (hg:gOk ops fr g:=by exact Vf) (hx:oev fr x=.d (.raw (.int .u64 a)):=by exact rfl) (hy:oev fr y=.d (.raw (.int .u64 c)):=by exact rfl) (h1:0≤a:=by exact Vm) (h2:a < 18446744073709551616:=by exact Vm) (h3:0≤c:=by exact Vm) (h4:c < 18446744073709551616:=by exact Vm)
  (hr:dops P n dr ops rest (⟨(gIns ops g++Zan [x,y] (raws [.int .u64 a,.int .u64 c])).map Prod.fst,[d],[],[]⟩::log) K ((d,.d (.raw (.int .u64 (andU a c))))::fr) h):dops P n dr ops (⟨some d,.binOp .and xt x y yt,ty,pos,after,g⟩::rest) log K fr h:=by
 refine Zhj rfl (fun w=>?_) hdn hg hx hy hr
 simp only[binOp,Op.intBits,ne_eq,not_true_eq_false,if_false,Sem.run_pure,BitVec.toNat_and]
 rw[ZpM h1 h2,ZpM h3 h4,ZiA (Nat.and_lt_two_pow (n:=64) _ (by omega))];rfl
theorem ZyY {x y:Operand} {xt yt:TypeId} {a c:Int} {k:IntKind} (hdn:Nat.blt d n=true:=by exact rfl) (hg:gOk ops fr g:=by exact Vf) (hx:oev fr x=.d (.raw (.int .u64 a)):=by exact rfl) (hy:oev fr y=.d (.raw (.int k c)):=by exact rfl) (h1:0≤a:=by exact Vm) (h3:0≤c:=by exact Vm) (h4:c≤64:=by exact Vm)
  (hr:dops P n dr ops rest (⟨(gIns ops g++Zan [x,y] (raws [.int .u64 a,.int k c])).map Prod.fst,[d],[],[]⟩::log) K ((d,.d (.raw (.int .u64 (shrU a c))))::fr) h):dops P n dr ops (⟨some d,.binOp .shr xt x y yt,ty,pos,after,g⟩::rest) log K fr h:=by
 refine ZtB rfl (fun w=>?_) hdn hg hx hy hr
 simp only[binOp]
 rw[shift_shr .u64 k a c h3 (by simpa[IntKind.bits] using h4)]
 have e:shrU a c=a / 2 ^ c.toNat:=by
  rw[shrU,Nat.shiftRight_eq_div_pow,Int.natCast_ediv,Int.toNat_of_nonneg h1];simp
 rw[e];rfl
theorem ZyZ {x y:Operand} {xt yt:TypeId} {a c:Int} {k:IntKind} (hdn:Nat.blt d n=true:=by exact rfl) (hg:gOk ops fr g:=by exact Vf) (hx:oev fr x=.d (.raw (.int .u64 a)):=by exact rfl) (hy:oev fr y=.d (.raw (.int k c)):=by exact rfl) (h1:a=1:=by exact rfl) (h3:0≤c:=by exact Vm) (h4:c < 64:=by exact Vm)
  (hr:dops P n dr ops rest (⟨(gIns ops g++Zan [x,y] (raws [.int .u64 a,.int k c])).map Prod.fst,[d],[],[]⟩::log) K ((d,.d (.raw (.int .u64 (shlU 1 c))))::fr) h):dops P n dr ops (⟨some d,.binOp .shl xt x y yt,ty,pos,after,g⟩::rest) log K fr h:=by
 subst h1
 refine ZtB rfl (fun w=>?_) hdn hg hx hy hr
 simp only[binOp]
 rw[shift_shl .u64 k 1 c h3 (by simp[IntKind.bits];omega)]
 have e:(1:Int) * (2:Int) ^ c.toNat=((1 <<< c.toNat:Nat):Int):=by
  rw[Nat.shiftLeft_eq];simp
 have hl:(1 <<< c.toNat:Nat) < 18446744073709551616:=by
  rw[Nat.shiftLeft_eq,Nat.one_mul]
  exact Nat.pow_lt_pow_right (a:=2) (n:=64) (by decide) (by omega)
 rw[e,ZiA hl];rfl
theorem Zy0 {x y:Operand} {xt yt:TypeId} {a c:Int} {k:IntKind} (hdn:Nat.blt d n=true:=by exact rfl) (hg:gOk ops fr g:=by exact Vf) (hx:oev fr x=.d (.raw (.int k a)):=by exact rfl) (hy:oev fr y=.d (.raw (.int k c)):=by exact rfl) (h1:0≤a:=by exact Vm) (h3:0 < c:=by exact Vm)
  (hr:dops P n dr ops rest (⟨(gIns ops g++Zan [x,y] (raws [.int k a,.int k c])).map Prod.fst,[d],[],[]⟩::log) K ((d,.d (.raw (.int k (a % c))))::fr) h):dops P n dr ops (⟨some d,.binOp .rem xt x y yt,ty,pos,after,g⟩::rest) log K fr h:=by
 refine Zhj rfl (fun w=>?_) hdn hg hx hy hr
 simp only[binOp,Op.intDiv,ne_eq,not_true_eq_false,if_false]
 rw[if_neg (by omega)]
 simp[Int.tmod_eq_emod_of_nonneg h1]
theorem Zy1 {x y:Operand} {xt yt:TypeId} {a c:Int} (hdn:Nat.blt d n=true:=by exact rfl) (hg:gOk ops fr g:=by exact Vf) (hx:oev fr x=I a:=by exact rfl) (hy:oev fr y=I c:=by exact rfl) (h1:0≤a:=by exact Vm) (h2:a≤9223372036854775807:=by exact Vm) (h3:0 < c:=by exact Vm)
  (hr:dops P n dr ops rest (⟨(gIns ops g++Zan [x,y] (raws [.int .i64 a,.int .i64 c])).map Prod.fst,[d],[],[]⟩::log) K ((d,I (a / c))::fr) h):dops P n dr ops (⟨some d,.binOp .quo xt x y yt,ty,pos,after,g⟩::rest) log K fr h:=by
 refine Zhj (k:=.i64) rfl (fun w=>?_) hdn hg hx hy hr
 simp only[binOp,Op.intDiv,ne_eq,not_true_eq_false,if_false]
 rw[if_neg (by omega)]
 have e:a.tdiv c=a / c:=Int.tdiv_eq_ediv_of_nonneg h1
 have h4:0≤a / c:=Int.ediv_nonneg h1 (by omega)
 have h5:a / c≤a:=Int.ediv_le_self _ h1
 simp only[e,Znb (show -9223372036854775808≤a / c by omega) (show a / c≤9223372036854775807 by omega),Sem.run_pure]
theorem ZpN {x:Operand} {st dt:TypeId} {a c:Int} {k k':IntKind} {ds:TypeDesc} (hdn:Nat.blt d n=true:=by exact rfl) (hg:gOk ops fr g:=by exact Vf) (hx:oev fr x=.d (.raw (.int k a)):=by exact rfl) (hs:P.underlying st=some ds:=by first|exact undInt|exact undUint|exact undByte|exact undSet) (hu:P.underlying dt=some (.int k'):=by first|exact undInt|exact undUint|exact undByte|exact undSet) (hw:k'.wrap a=c:=by first|exact IntWalk.u64_in _ ⟨by omega,by omega⟩|exact IntWalk.i64_in _ ⟨by omega,by omega⟩|exact IntWalk.u8_in _ ⟨by omega,by omega⟩|exact rfl)
  (hr:dops P n dr ops rest (⟨(gIns ops g++Zan [x] (raws [.int k a])).map Prod.fst,[d],[],[]⟩::log) K ((d,.d (.raw (.int k' c)))::fr) h):dops P n dr ops (⟨some d,.convert st dt x,ty,pos,after,g⟩::rest) log K fr h:=by
 subst hw
 refine Zjf [x] [.int k a] _ (fun ρ w hρ=>?_) rfl hdn hg ⟨hx,trivial⟩ (by simp[Zaj hx rfl]) hr
 simp only[List.map_cons,List.map_nil,List.cons.injEq,and_true] at hρ
 have:(convert st dt (.int k a)).run P w=.ok (.int k' (k'.wrap a)) w:=by
  unfold convert
  simp only[Sem.run_bind,run_underlying hs,run_underlying hu,Result.andThen_ok]
  cases ds <;> simp[Conv.intToInt]
 simp only[execOp,hρ,Sem.run_bind,this,Result.andThen_ok,Sem.run_pure]
theorem ZmM {ρ:Operand→Value} {b:Builtin} {xs:List Operand} {ts:Array TypeId} {w:World} {v:Value} {m:Sem Value} (hb:∀ cs,builtin b ts ty cs (xs.map ρ).toArray=(do pure (.value (←m)))) (h:m.run P w=.ok v w) :
  (execOp ρ ⟨some d,.call { callee:=.builtin b,args:=xs.toArray,argTypes:=ts },ty,pos,after,g⟩).run P w=.ok (.value v) w:=by
 simp only[execOp,resolve,Sem.run_bind,Sem.run_pure,Result.andThen_ok,invoke,List.map_toArray,hb,h]
theorem Zy2 {x y:Operand} {ts:Array TypeId} {k:IntKind} {a c:Int} (hdn:Nat.blt d n=true:=by exact rfl) (hg:gOk ops fr g:=by exact Vf) (hx:oev fr x=.d (.raw (.int k a)):=by exact rfl) (hy:oev fr y=.d (.raw (.int k c)):=by exact rfl)
  (hr:dops P n dr ops rest (⟨(gIns ops g++Zan [x,y] (raws [.int k a,.int k c])).map Prod.fst,[d],[],[]⟩::log) K ((d,.d (.raw (.int k (minI a c))))::fr) h):dops P n dr ops (⟨some d,.call { callee:=.builtin .min,args:=#[x,y],argTypes:=ts },ty,pos,after,g⟩::rest) log K fr h:=by
 refine Zjf [x,y] [.int k a,.int k c] _ (fun ρ w hρ=>?_) rfl hdn hg ⟨hx,hy,trivial⟩ (by simp[Zaj hx rfl,Zaj hy rfl]) hr
 exact ZmM (xs:=[x,y]) (fun cs=>rfl) (by rw[hρ];rfl)
theorem Zy3 {x y:Operand} {ts:Array TypeId} {k:IntKind} {a c:Int} (hdn:Nat.blt d n=true:=by exact rfl) (hg:gOk ops fr g:=by exact Vf) (hx:oev fr x=.d (.raw (.int k a)):=by exact rfl) (hy:oev fr y=.d (.raw (.int k c)):=by exact rfl)
  (hr:dops P n dr ops rest (⟨(gIns ops g++Zan [x,y] (raws [.int k a,.int k c])).map Prod.fst,[d],[],[]⟩::log) K ((d,.d (.raw (.int k (maxI a c))))::fr) h):dops P n dr ops (⟨some d,.call { callee:=.builtin .max,args:=#[x,y],argTypes:=ts },ty,pos,after,g⟩::rest) log K fr h:=by
 refine Zjf [x,y] [.int k a,.int k c] _ (fun ρ w hρ=>?_) rfl hdn hg ⟨hx,hy,trivial⟩ (by simp[Zaj hx rfl,Zaj hy rfl]) hr
 exact ZmM (xs:=[x,y]) (fun cs=>rfl) (by rw[hρ];rfl)
end
end Go.Proofs.YtbpmepgnjanhnaaGreat
